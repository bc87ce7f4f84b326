/- measure.Steps (printed by gen_steps.py). -/
import Derived.Test.YtgdagknjnidmiaaGreatDoorStepsP
import Derived.Test.YtgdagknjnidmiaaGreatDoorCount
import Derived.Test.YtgdagknjnidmiaaGreatDoorRwO
import Derived.Test.YtgdagknjnidmiaaGreatDoorKeysRw
import Derived.Test.YtgdagknjnidmiaaGreatDoorCheckSent
import Derived.Test.YtgdagknjnidmiaaGreatDoorCheckActs
import Derived.Test.YtgdagknjnidmiaaGreatDoorM1
import Derived.Deep.RegionWith
import Derived.Deep.Cut
import Derived.Deep.DeepCutAuto
import Derived.Deep.QuietTactic
import Derived.BigQuiet
set_option linter.unusedVariables false
namespace Go.Proofs.YtgdagknjnidmiaaGreatDoor
open Go.RowKit Go.Maps

/-- a list of rows lies in a slice -/
def RwIs (w : World) (v : Value) (L : List Rw) : Prop := ∃ a c, v = .slice a L.length c ∧ RAt w a 6 Rw.cells L
theorem RwIs.nil (w : World) : RwIs w (.slice none 0 0) [] := ⟨none, 0, rfl, RAt.nil _ _ _ _⟩
theorem infoRw : (Tryz.prog.info? 37).map (fun i => (i.zero, i.size, i.bytes)) = some (some (.agg #[.string ⟨#[]⟩, .int .i64 0, .int .i64 0, .int .i64 0, .int .i64 0, .int .i64 0]), 6, 56) := by kernel_rfl
theorem infoB5 : (Tryz.prog.info? 71).map (fun i => (i.zero, i.size, i.bytes)) = some (some (.agg #[.bool false, .bool false, .bool false, .bool false, .bool false]), 5, 5) := by kernel_rfl
theorem zero_int3 (w : World) : (zeroValue 3).run Tryz.prog w = .ok (.int .i64 0) w := by kernel_rfl
theorem zero_ptrW (w : World) : (zeroValue 73).run Tryz.prog w = .ok (.pointer none) w := by kernel_rfl
theorem b5_cells (j : Nat) : (Value.cells (.agg #[.bool false, .bool false, .bool false, .bool false, .bool false]))[j % (Value.cells (.agg #[.bool false, .bool false, .bool false, .bool false, .bool false])).size]! = .bool false := by
  have h : (Value.cells (.agg #[.bool false, .bool false, .bool false, .bool false, .bool false])) = #[.bool false, .bool false, .bool false, .bool false, .bool false] := by rfl
  rw [h]
  show #[Value.bool false, .bool false, .bool false, .bool false, .bool false][j % 5]! = _
  rcases (show j % 5 = 0 ∨ j % 5 = 1 ∨ j % 5 = 2 ∨ j % 5 = 3 ∨ j % 5 = 4 by omega) with e | e | e | e | e <;> rw [e] <;> rfl
theorem withinW_any (n : Int) (w : World) : Calls Tryz.prog 30 #[.int .i64 n, .int .i64 0, .int .i64 4321440] w fun e w' => e = .returned (.bool (decide (0 ≤ n ∧ n ≤ 4321440))) ∧ w = w' := by
  by_cases h : 0 ≤ n ∧ n ≤ 4321440
  · rw [decide_eq_true h]; exact within_yes _ _ _ _ h.1 h.2
  · rw [decide_eq_false h]; exact within_no _ _ _ _ (by omega)

set_option maxRecDepth 100000 in
set_option maxHeartbeats 16000000 in
theorem Steps_any (a : Option Addr) (l : List Snt) (nl cl : Nat) (ac : Option Addr) (acts : List Ac) (na ca : Nat) (span : Int) (w : World) (hn : l.length = nl) (hn1 : nl ≤ 1000) (hI : RAt w a 4 Snt.cells l) (hok : ∀ x ∈ l, x.ok)
    (hm : acts.length = na) (hm1 : na ≤ 1000) (hJ : RAt w ac 3 Ac.cells acts) (hoka : ∀ x ∈ acts, x.ok) :
    Calls Tryz.prog 8 #[.slice a nl cl, .slice ac na ca, .int .i64 span] w fun e w' => ∃ v, e = .returned (.tuple #[v, .int .i64 (stE l acts span)]) ∧ RwIs w' v (stL l acts span) ∧ Below w.heap.size w w' := by
  obtain ⟨i0, hi, hz0, hz1, hz2⟩ := info_parts infoRw
  obtain ⟨j0, hj, hy0, hy1, hy2⟩ := info_parts infoB5
  have hmm := @run_makeMap Tryz.prog
  have HI := Lib.hid hI
  have HJ := Lib.hid hJ
  have HN := Lib.hid hn
  have HM := Lib.hid hm
  have HOK := Lib.hid hok
  have HOA := Lib.hid hoka
  have HE : Hid (stE l acts span = if sentE l ≠ 0 then sentE l else if acsE l acts ≠ 0 then acsE l acts else if span < 0 ∨ 4321440 < span then 1 else 0) := Lib.hid rfl
  have HAL : Hid (stL l acts span = if stE l acts span = 0 then rwL (rws l acts span l.length) else []) := Lib.hid rfl
  have C1 := Lib.hid (CheckSent_any a l nl cl w hn hn1 hI hok)
  obtain ⟨E, hE⟩ : ∃ z, stE l acts span = z := ⟨_, rfl⟩
  obtain ⟨LL, hLL⟩ : ∃ z, stL l acts span = z := ⟨_, rfl⟩
  rw [hE] at HE HAL
  rw [hLL] at HAL
  rw [hE, hLL]
  obtain ⟨SE, hSE⟩ : ∃ z, sentE l = z := ⟨_, rfl⟩
  have HSE := Lib.hid hSE
  rw [hSE] at HE C1
  clear hn hI hok hm hJ hoka hE hLL hSE
  have FAIL : Hid (E ≠ 0 → LL = []) := Lib.hid (fun h => HAL.out.trans (if_neg h))
  go_enter Tryz.func8, Tryz.ntmps8
  go_wp2_with fail
  with_reducible refine C1.out.mono ?_
  rintro e w1 ⟨rfl, b1⟩
  have HB1 := Lib.hid b1
  clear b1 C1
  by_cases h1 : SE = 0
  · subst h1
    have HND := Lib.hid (ids_nodup HSE.out)
    have HE2 : Hid (E = if acsE l acts ≠ 0 then acsE l acts else if span < 0 ∨ 4321440 < span then 1 else 0) := Lib.hid (by have h := HE.out; rw [if_neg (by simp)] at h; exact h)
    have HV0 := Lib.hid (VM.made w1 (.int .i64 0))
    have HB2 := Lib.hid (HB1.out.alloc HB1.out.size (.map #[] 0))
    obtain ⟨b, hb⟩ : ∃ z, w1.heap.size = z := ⟨_, rfl⟩
    rw [hb] at HV0
    have hwb : w.heap.size ≤ b := by rw [← hb]; exact HB1.out.size
    clear HE HB1
    go_upto_region 7 with (fail)
    generalize w1.alloc (.map #[] 0) = w2 at *
    try rw [hb]
    clear hb
    go_wp2_with fail
    go_loopw [10, 11, 38] (fun _ _ i wr => ∃ (k : Nat), k ≤ nl ∧ i = .int .i64 k ∧ VM wr (.int .i64 0) b k (idsOf l k) (gI l k) ∧ Below w.heap.size w wr) (fun _ _ i _ => nl - (intOf i).toNat)
    case atStart => exact ⟨0, Nat.zero_le _, rfl, HV0.out, HB2.out⟩
    case round =>
      obtain ⟨k, hk, rfl, hV, hB⟩ := hrel
      have HV := Lib.hid hV
      have HB := Lib.hid hB
      clear HV0 HB2 hV hB
      by_cases hlt : k < nl
      · --@r1
        have hkl : k < l.length := by have := HN.out; omega
        obtain ⟨p, off, hap, hp, c0, c1, c2, c3⟩ := (HI.out.below HB.out).at4 hkl (v0 := .string l[k].id) (v1 := .string l[k].person) (v2 := .string l[k].letter) (v3 := .int .i64 l[k].at_) rfl
        subst hap
        obtain ⟨o1, o2, o3, o4, o5⟩ := HOK.out l[k] (List.getElem_mem hkl)
        have HG := Lib.hid (gI_step HND.out hkl)
        generalize l[k] = x at *
        obtain ⟨sid, sp, sl, sat⟩ := x
        simp only at c0 c1 c2 c3 o1
        have HBx := Lib.hid (HB.out.alloc HB.out.size (.cells #[.string sid, .string sp, .string sl, .int .i64 sat] 62))
        have HVx := Lib.hid (HV.out.alloc (.cells #[.string sid, .string sp, .string sl, .int .i64 sat] 62))
        have HX := Lib.hid (XB.new wr [.string sid, .string sp, .string sl, .int .i64 sat] 62)
        simp only [List.toArray] at HX
        go_upto_region 10 with (fail)
        generalize wr.alloc (.cells #[.string sid, .string sp, .string sl, .int .i64 sat] 62) = wa at *
        generalize wr.heap.size = q at *
        clear c0 c1 c2 c3 HV HB
        have x0 := HX.out.2 0 _ rfl
        have hxl := HX.out.1
        have hsm : sid.size ≤ maxLen := by unfold maxLen; omega
        have hkm : k < maxLen := by unfold maxLen; omega
        go_wp2_with (first | (at_mapUpdate; refine wpList_update_vm _ rfl _ _ _ 67 3 rfl Tryz.underlying67 (.int .i64 0) b k (idsOf l k) (gI l k) rfl HVx.out hkm sid (.int .i64 (k : Int)) rfl rfl hsm ?_))
        intro w9 hv9 g9
        rw [HG.out.1, HG.out.2] at hv9
        have HV9 := Lib.hid hv9
        have HB9 := Lib.hid (HBx.out.grown g9 HBx.out.size (fun g hg => by have := Option.some.inj hg; omega))
        clear hv9 g9 HVx HBx HX x0 hxl HG
        go_wp2_with fail
        go_roundw
        case rel => exact ⟨k + 1, by omega, by go_num, HV9.out, HB9.out⟩
        case measure => simp [intOf]; omega
        --@end
      · obtain rfl : nl = k := by omega
        have HV1 : Hid (VM wr (.int .i64 0) b nl (sIds l) (gI l nl)) := Lib.hid (by have h := HV.out; rw [← HN.out, idsOf_all, HN.out] at h; exact h)
        have HLK := Lib.hid (fun s => gI_all l s)
        rw [HN.out] at HLK
        clear HV
        obtain ⟨AE, hAE⟩ : ∃ z, acsE l acts = z := ⟨_, rfl⟩
        rw [hAE] at HE2
        have HAE := Lib.hid hAE.symm
        clear hAE
        have hwr : w.heap.size ≤ wr.heap.size := HB.out.size
        have HV2 := Lib.hid HV1.out
        have HB2 := Lib.hid HB.out
        clear HV1 HB
        go_wp2_with fail
        go_loopw [13, 14, 15, 50] (fun _ _ _ i wx => ∃ (k : Nat), k ≤ na ∧ i = .int .i64 k ∧ Hid (AE = acsE l (acts.drop k)) ∧ VM wx (.int .i64 0) b nl (sIds l) (gI l nl) ∧ Below w.heap.size w wx) (fun _ _ _ i _ => na - (intOf i).toNat)
        case atStart => exact ⟨0, Nat.zero_le _, rfl, HAE, HV2.out, HB2.out⟩
        case round =>
          obtain ⟨k, hk2, rfl, hAE, hV, hB⟩ := hrel
          have HV := Lib.hid hV
          have HB := Lib.hid hB
          clear HV2 HB2 hV hB
          by_cases hlt2 : k < na
          · --@r2
            have hkl : k < acts.length := by have := HM.out; omega
            obtain ⟨p, off, hap, hp, c0, c1, c2⟩ := rat3 (HJ.out.below HB.out) hkl (v0 := .string acts[k].sent) (v1 := .int .i64 acts[k].kind) (v2 := .int .i64 acts[k].at_) rfl
            subst hap
            obtain ⟨o1, o2, o3, o4, o5⟩ := HOA.out acts[k] (List.getElem_mem hkl)
            have HA := Lib.hid (hAE.out.trans (acsE_drop l acts k hkl))
            generalize acts[k] = x at *
            obtain ⟨aid, ak, aat⟩ := x
            simp only at c0 c1 c2 o1
            have HBx := Lib.hid (HB.out.alloc HB.out.size (.cells #[.string aid, .int .i64 ak, .int .i64 aat] 65))
            have HVx := Lib.hid (HV.out.alloc (.cells #[.string aid, .int .i64 ak, .int .i64 aat] 65))
            have HX := Lib.hid (XB.new wr [.string aid, .int .i64 ak, .int .i64 aat] 65)
            simp only [List.toArray] at HX
            go_upto_region 15 with (fail)
            generalize wr.alloc (.cells #[.string aid, .int .i64 ak, .int .i64 aat] 65) = wa at *
            generalize wr.heap.size = q at *
            clear c0 c1 c2 HV HB hAE
            obtain ⟨x0, x1, x2⟩ : wa.cell? ⟨q, 0, none⟩ = some (.string aid) ∧ wa.cell? ⟨q, 1, none⟩ = some (.int .i64 ak) ∧ wa.cell? ⟨q, 2, none⟩ = some (.int .i64 aat) := ⟨HX.out.2 0 _ rfl, HX.out.2 1 _ rfl, HX.out.2 2 _ rfl⟩
            have hxl := HX.out.1
            have hsm : aid.size ≤ maxLen := by unfold maxLen; omega
            have hlk := HVx.out.look_ok Tryz.underlying67 (zero_int3 _) aid hsm
            have C2 := Lib.hid (fun w => isAct_any ak w)
            have C3 := Lib.hid (fun w => isMoment_any aat w)
            obtain ⟨hl1, hl2⟩ := HLK.out aid
            by_cases hx : idxG (sIds l) aid < 0
            · have h0 : hasS (sIds l) aid = false := by rw [hl2]; exact decide_eq_false (by omega)
              rw [h0] at hlk
              have hAV : acE l ⟨aid, ak, aat⟩ = 8 := if_pos hx
              rw [hAV, if_neg (by decide)] at HA
              obtain rfl : E = 8 := by have h := HE2.out; rw [HA.out, if_pos (by decide)] at h; exact h
              obtain rfl := FAIL.out (by decide)
              go_wp2_with fail
              refine bodyPost_ret (v := .tuple #[.slice none 0 0, .int .i64 8]) (by simp [results, Tryz.results8, go_sem]) rfl ?_
              exact ⟨_, rfl, RwIs.nil _, HBx.out⟩
            · obtain ⟨j, hj9⟩ : ∃ j : Nat, idxG (sIds l) aid = (j : Int) := ⟨(idxG (sIds l) aid).toNat, by omega⟩
              have h0 : hasS (sIds l) aid = true := by rw [hl2]; exact decide_eq_true (by omega)
              have hgi := hl1 h0
              rw [hj9] at hgi hx
              rw [h0, hgi] at hlk
              have hjl : j < l.length := by
                have h := idxG_bd (sIds l) aid
                have e : (sIds l).length = l.length := List.length_map ..
                rw [e] at h
                omega
              have hjn : j < nl := by have := HN.out; omega
              have hAV : acE l ⟨aid, ak, aat⟩ = if kndB ak = false then 4 else if momB aat = false then 1 else if aat < l[j].at_ then 7 else 0 := by
                unfold acE
                show (if idxG (sIds l) aid < 0 then (8 : Int) else _) = _
                rw [hj9, if_neg hx, sAt_get hjl]
              rw [hAV] at HA
              clear hAV hl1 hl2 hgi h0
              generalize kndB ak = b2 at *
              obtain ⟨mb, hmb⟩ : ∃ z, momB aat = z := ⟨_, rfl⟩
              have HMB := Lib.hid hmb
              rw [hmb] at HA C3
              clear hmb
              obtain ⟨p2, off2, hap2, hp2, d0, d1, d2, d3⟩ := (HI.out.below HBx.out).at4 hjl (v0 := .string l[j].id) (v1 := .string l[j].person) (v2 := .string l[j].letter) (v3 := .int .i64 l[j].at_) rfl
              subst hap2
              generalize l[j] = y at *
              obtain ⟨yid, yp, yl, yat⟩ := y
              simp only at d0 d1 d2 d3 HA
              clear d0 d1 d2
              have hj0 : (0 : Int) ≤ (j : Int) := by omega
              have hj1 : (j : Int) < (nl : Int) := by omega
              go_wp2_with fail
              with_reducible refine (C2.out _).mono ?_
              rintro e w4 ⟨rfl, rfl⟩
              cases b2 with
              | false =>
                rw [if_pos rfl, if_neg (by decide)] at HA
                obtain rfl : E = 4 := by have h := HE2.out; rw [HA.out, if_pos (by decide)] at h; exact h
                obtain rfl := FAIL.out (by decide)
                go_wp2_with fail
                refine bodyPost_ret (v := .tuple #[.slice none 0 0, .int .i64 4]) (by simp [results, Tryz.results8, go_sem]) rfl ?_
                exact ⟨_, rfl, RwIs.nil _, HBx.out⟩
              | true =>
                rw [if_neg (by decide : ¬ (true = false))] at HA
                go_wp2_with fail
                with_reducible refine (C3.out _).mono ?_
                rintro e w4 ⟨rfl, rfl⟩
                cases mb with
                | false =>
                  rw [if_pos rfl, if_neg (by decide)] at HA
                  obtain rfl : E = 1 := by have h := HE2.out; rw [HA.out, if_pos (by decide)] at h; exact h
                  obtain rfl := FAIL.out (by decide)
                  go_wp2_with fail
                  refine bodyPost_ret (v := .tuple #[.slice none 0 0, .int .i64 1]) (by simp [results, Tryz.results8, go_sem]) rfl ?_
                  exact ⟨_, rfl, RwIs.nil _, HBx.out⟩
                | true =>
                  rw [if_neg (by decide : ¬ (true = false))] at HA
                  by_cases hay : aat < yat
                  · rw [if_pos hay, if_neg (by decide)] at HA
                    obtain rfl : E = 7 := by have h := HE2.out; rw [HA.out, if_pos (by decide)] at h; exact h
                    obtain rfl := FAIL.out (by decide)
                    go_wp2_with fail
                    go_quiet (fail)
                    go_wp2_with fail
                    refine bodyPost_ret (v := .tuple #[.slice none 0 0, .int .i64 7]) (by simp [results, Tryz.results8, go_sem]) rfl ?_
                    exact ⟨_, rfl, RwIs.nil _, below_drewN HBx.out _⟩
                  · rw [if_neg hay, if_pos rfl] at HA
                    clear C2 C3
                    go_wp2_with fail
                    go_quiet (fail)
                    go_wp2_with fail
                    go_roundw
                    case rel => exact ⟨k + 1, by omega, by go_num, HA, HVx.out.drewN _, below_drewN HBx.out _⟩
                    case measure => simp [intOf]; omega
            --@end
          · have hA0 : AE = 0 := by rw [hAE.out, List.drop_eq_nil_of_le (by rw [HM.out]; omega)]; rfl
            subst hA0
            have HAE0 : Hid (acsE l acts = 0) := Lib.hid HAE.out.symm
            have HE3 : Hid (E = if span < 0 ∨ 4321440 < span then 1 else 0) := Lib.hid (by have h := HE2.out; rw [if_neg (by simp)] at h; exact h)
            clear HE2 hAE HAE
            have C4 := Lib.hid (withinW_any span wr)
            have hwr9 : w.heap.size ≤ wr.heap.size := HB.out.size
            obtain ⟨sb, hsb⟩ : ∃ z, decide (0 ≤ span ∧ span ≤ 4321440) = z := ⟨_, rfl⟩
            rw [hsb] at C4
            go_wp2_with fail
            with_reducible refine C4.out.mono ?_
            rintro e w4 ⟨rfl, rfl⟩
            cases sb with
            | false =>
              have hsp := of_decide_eq_false hsb
              obtain rfl : E = 1 := HE3.out.trans (if_pos (by omega))
              obtain rfl := FAIL.out (by decide)
              go_wp2_with fail
              refine bodyPost_ret (v := .tuple #[.slice none 0 0, .int .i64 1]) (by simp [results, Tryz.results8, go_sem]) rfl ?_
              exact ⟨_, rfl, RwIs.nil _, HB.out⟩
            | true =>
              obtain ⟨hs0, hs1⟩ := of_decide_eq_true hsb
              obtain rfl : E = 0 := HE3.out.trans (if_neg (by omega))
              have HLL : Hid (LL = rwL (rws l acts span nl)) := Lib.hid (by have h := HAL.out; rw [if_pos rfl, HN.out] at h; exact h)
              clear HE3 HAL FAIL C4 hsb
              have HGD := Lib.hid (acsE_good HAE0.out)
              have HMOM := Lib.hid (sentE_mom HSE.out)
              have HVr := Lib.hid HV.out
              have HBr := Lib.hid HB.out
              clear HV HB
              obtain ⟨g, hg⟩ : ∃ z, wr.heap.size = z := ⟨_, rfl⟩
              have hbg : b < g := by rw [← hg]; exact HVr.out.lt
              have HBW := Lib.hid (fun w' (k : wr.grownBy w' none) => (⟨HVr.out.kept k (by simp), HBr.out.grown k HBr.out.size (fun g hg => by cases hg)⟩ : VM w' (.int .i64 0) b nl (sIds l) (gI l nl) ∧ Below w.heap.size w w'))
              clear HVr HBr
              have hwg : w.heap.size ≤ g := by rw [← hg]; exact hwr9
              go_wp2_with (first | (refine wpList_make_rowK _ rfl _ _ 70 rfl 71 j0 _ 5 (.bool false) Tryz.underlying70 hj hy0 hy1 b5_cells nl (by go_simp) (by go_simp) (by rw [hy2]; omega) (by unfold maxLen; omega) ?_) | fail)
              intro wd hrd hgd hsd
              obtain ⟨HV3, HB3⟩ := HBW.out wd hgd
              have HVd := Lib.hid HV3
              have HBd := Lib.hid HB3
              try rw [hg] at hrd
              try rw [hg] at hsd
              try rw [hg]
              have HRd : Hid (RowG wd g (nl * 5) (fun c => .bool (dF l (acts.take 0) span c))) := Lib.hid (hrd.congr fun j _ => rfl)
              clear HBW HV3 HB3 hrd hgd hg
              go_wp2_with fail
              go_loopw [18, 19, 92] (fun _ _ i wx => ∃ (k : Nat), k ≤ na ∧ i = .int .i64 k ∧ RowG wx g (nl * 5) (fun c => .bool (dF l (acts.take k) span c)) ∧ VM wx (.int .i64 0) b nl (sIds l) (gI l nl) ∧ Below w.heap.size w wx ∧ g < wx.heap.size) (fun _ _ i _ => na - (intOf i).toNat)
              case atStart => exact ⟨0, Nat.zero_le _, rfl, HRd.out, HVd.out, HBd.out, by omega⟩
              case round =>
                obtain ⟨k, hk3, rfl, hR, hV, hB, hgs⟩ := hrel
                have HR := Lib.hid hR
                have HV := Lib.hid hV
                have HB := Lib.hid hB
                clear HRd HVd HBd hR hV hB
                by_cases hlt3 : k < na
                · --@r3
                  have hkl : k < acts.length := by have := HM.out; omega
                  obtain ⟨p, off, hap, hp, c0, c1, c2⟩ := rat3 (HJ.out.below HB.out) hkl (v0 := .string acts[k].sent) (v1 := .int .i64 acts[k].kind) (v2 := .int .i64 acts[k].at_) rfl
                  subst hap
                  obtain ⟨o1, o2, o3, o4, o5⟩ := HOA.out acts[k] (List.getElem_mem hkl)
                  obtain ⟨⟨hx0, hx1⟩, hk1', hk4', hmb, hat⟩ := acE_zero (HGD.out acts[k] (List.getElem_mem hkl))
                  obtain ⟨hm0, hm9⟩ := mom_bd hmb
                  obtain ⟨j, hj9⟩ : ∃ j : Nat, idxG (sIds l) acts[k].sent = (j : Int) := ⟨(idxG (sIds l) acts[k].sent).toNat, by omega⟩
                  obtain ⟨kd, hkd⟩ : ∃ kd : Nat, acts[k].kind = (kd : Int) := ⟨acts[k].kind.toNat, by omega⟩
                  have hjl : j < l.length := by omega
                  have hjn : j < nl := by have := HN.out; omega
                  have hkd5 : kd < 5 := by omega
                  have HST := Lib.hid (fun c hc => dF_step HND.out hkl hjl hj9 hkd hkd5 (span := span) c hc)
                  have hmy := HMOM.out l[j] (List.getElem_mem hjl)
                  obtain ⟨hl1, hl2⟩ := HLK.out acts[k].sent
                  have h0 : hasS (sIds l) acts[k].sent = true := by rw [hl2]; exact decide_eq_true (by omega)
                  have hgi := hl1 h0
                  rw [hj9] at hgi
                  clear hl1 hl2 h0 hx0 hx1 hat hj9 hmb o2 o3 o4 o5
                  generalize acts[k] = x at *
                  obtain ⟨aid, ak, aat⟩ := x
                  simp only at c0 c1 c2 o1 hm0 hm9 hkd HST hgi
                  subst hkd
                  have HBx := Lib.hid (HB.out.alloc HB.out.size (.cells #[.string aid, .int .i64 (kd : Int), .int .i64 aat] 65))
                  have HVx := Lib.hid (HV.out.alloc (.cells #[.string aid, .int .i64 (kd : Int), .int .i64 aat] 65))
                  have HRx := Lib.hid (HR.out.alloc (.cells #[.string aid, .int .i64 (kd : Int), .int .i64 aat] 65))
                  have HX := Lib.hid (XB.new wr [.string aid, .int .i64 (kd : Int), .int .i64 aat] 65)
                  simp only [List.toArray] at HX
                  go_upto_region 31 with (fail)
                  generalize wr.alloc (.cells #[.string aid, .int .i64 (kd : Int), .int .i64 aat] 65) = wa at *
                  generalize wr.heap.size = q at *
                  clear c0 c1 c2 HV HB HR
                  have hsm : aid.size ≤ maxLen := by unfold maxLen; omega
                  have hlk := HVx.out.look Tryz.underlying67 (zero_int3 _) aid hsm
                  rw [hgi] at hlk
                  obtain ⟨p2, off2, hap2, hp2, d0, d1, d2, d3⟩ := (HI.out.below HBx.out).at4 hjl (v0 := .string l[j].id) (v1 := .string l[j].person) (v2 := .string l[j].letter) (v3 := .int .i64 l[j].at_) rfl
                  subst hap2
                  generalize l[j] = y at *
                  obtain ⟨yid, yp, yl, yat⟩ := y
                  simp only at d0 d1 d2 d3 hmy HST
                  clear d0 d1 d2 hgi
                  have hj0 : (0 : Int) ≤ (j : Int) := by omega
                  have hj1 : (j : Int) < (nl : Int) := by omega
                  have hkd0 : (0 : Int) ≤ (kd : Int) := by omega
                  have hkd1 : (kd : Int) < 5 := by omega
                  have hws : IntKind.i64.wrap (aat - yat) = aat - yat := by rw [IntKind.wrap_i64]; omega
                  obtain ⟨x0, x1, x2⟩ : wa.cell? ⟨q, 0, none⟩ = some (.string aid) ∧ wa.cell? ⟨q, 1, none⟩ = some (.int .i64 (kd : Int)) ∧ wa.cell? ⟨q, 2, none⟩ = some (.int .i64 aat) := ⟨HX.out.2 0 _ rfl, HX.out.2 1 _ rfl, HX.out.2 2 _ rfl⟩
                  have hxl := HX.out.1
                  have hjk : j * 5 + kd < nl * 5 := by omega
                  have hr0 := HRx.out.cell (j * 5 + kd) hjk
                  have hr1 := HRx.out.free (j * 5 + kd) hjk
                  have hr2 := HRx.out.lt
                  by_cases hsp : aat - yat ≤ span
                  · go_wp2_with fail
                    go_quiet (fail)
                    go_wp2_with fail
                    have HS9 : Hid (∀ m, RowG ((wa.drewN m).setCell ⟨g, j * 5 + kd, none⟩ (.bool true)) g (nl * 5) (fun c => .bool (dF l (acts.take (k + 1)) span c)) ∧ VM ((wa.drewN m).setCell ⟨g, j * 5 + kd, none⟩ (.bool true)) (.int .i64 0) b nl (sIds l) (gI l nl) ∧ Below w.heap.size w ((wa.drewN m).setCell ⟨g, j * 5 + kd, none⟩ (.bool true)) ∧ g < ((wa.drewN m).setCell ⟨g, j * 5 + kd, none⟩ (.bool true)).heap.size) := Lib.hid (fun m => by
                      have hgr : (wa.drewN m).grownBy ((wa.drewN m).setCell ⟨g, j * 5 + kd, none⟩ (.bool true)) (some g) := grown_set (p := ⟨g, j * 5 + kd, none⟩) (grownW_same _ (some g)) (.inl rfl) _
                      refine ⟨((HRx.out.drewN m).set (j * 5 + kd) hjk (.bool true)).congr fun c hc => ?_, (HVx.out.drewN m).kept hgr (fun e => by have := Option.some.inj e; omega), (below_drewN HBx.out m).grown hgr (below_drewN HBx.out m).size (fun g' hg' => by have := Option.some.inj hg'; omega), by simpa [World.setCell] using hr2⟩
                      rw [HST.out c (by rw [HN.out]; exact hc)]
                      by_cases e : c = j * 5 + kd
                      · rw [if_pos e, if_pos ⟨hsp, e⟩]
                      · rw [if_neg e, if_neg (fun h => e h.2)])
                    go_region
                    go_wp2_with fail
                    go_roundw
                    case rel => exact ⟨k + 1, by omega, by go_num, (HS9.out _).1, (HS9.out _).2.1, (HS9.out _).2.2.1, (HS9.out _).2.2.2⟩
                    case measure => simp [intOf]; omega
                  · go_wp2_with fail
                    go_quiet (fail)
                    go_wp2_with fail
                    go_roundw
                    case rel => exact ⟨k + 1, by omega, by go_num, (HRx.out.drewN _).congr fun c hc => by rw [HST.out c (by rw [HN.out]; exact hc), if_neg (fun h => absurd h.1 (by omega))], HVx.out.drewN _, below_drewN HBx.out _, hr2⟩
                    case measure => simp [intOf]; omega
                  --@end
                · obtain rfl : na = k := by omega
                  have HRt : Hid (RowG wr g (nl * 5) (fun c => .bool (dF l acts span c))) := Lib.hid (by have h := HR.out; rw [← HM.out, List.take_length] at h; exact h)
                  have hbs := hgs
                  have HW0 := Lib.hid (RwO.made wr (Nat.le_refl wr.heap.size))
                  have HRm := Lib.hid (HRt.out.alloc (.map #[] 0))
                  have HBm := Lib.hid (HB.out.alloc HB.out.size (.map #[] 0))
                  obtain ⟨bm, hbm⟩ : ∃ z, wr.heap.size = z := ⟨_, rfl⟩
                  have hgb : g < bm := by omega
                  have hwm : w.heap.size ≤ bm := by rw [← hbm]; exact HB.out.size
                  rw [hbm] at HW0
                  clear HR HRt HB HV HJ HLK HGD HMOM
                  go_upto_region 36 with (fail)
                  generalize wr.alloc (.map #[] 0) = wm at *
                  try rw [hbm]
                  clear hbm
                  go_wp2_with fail
                  go_loopw [21, 22, 23, 120] (fun _ _ _ i wx => ∃ (k n1 : Nat) (blk : ByteArray → Nat), k ≤ nl ∧ i = .int .i64 k ∧ n1 ≤ k ∧ RwO wx bm n1 bm (rws l acts span k) blk ∧ RowG wx g (nl * 5) (fun c => .bool (dF l acts span c)) ∧ Below w.heap.size w wx) (fun _ _ _ i _ => nl - (intOf i).toNat)
                  case atStart => exact ⟨0, 0, _, Nat.zero_le _, rfl, Nat.le_refl _, HW0.out, HRm.out, HBm.out⟩
                  case round =>
                    obtain ⟨k, n1, blk, hk4, rfl, hn1', hW, hR, hB⟩ := hrel
                    have HW := Lib.hid hW
                    have HR := Lib.hid hR
                    have HB := Lib.hid hB
                    clear HW0 HRm HBm hW hR hB
                    by_cases hlt4 : k < nl
                    · --@r4
                      have hkl : k < l.length := by have := HN.out; omega
                      obtain ⟨p, off, hap, hp, c0, c1, c2, c3⟩ := (HI.out.below HB.out).at4 hkl (v0 := .string l[k].id) (v1 := .string l[k].person) (v2 := .string l[k].letter) (v3 := .int .i64 l[k].at_) rfl
                      subst hap
                      obtain ⟨o1, o2, o3, o4, o5⟩ := HOK.out l[k] (List.getElem_mem hkl)
                      have HRS := Lib.hid (rws_succ l acts span k hkl)
                      have HDF := Lib.hid (fun j hj => dF_at hkl acts span j hj)
                      have HBD := Lib.hid (fun s j => rws_bd l acts span k s j)
                      obtain ⟨dd, hdd⟩ : ∃ z, didB acts span l[k] = z := ⟨_, rfl⟩
                      rw [hdd] at HRS HDF
                      clear hdd
                      generalize l[k] = x at *
                      obtain ⟨sid, sp, s, sat⟩ := x
                      simp only at c0 c1 c2 c3 o3 HRS
                      obtain ⟨r0, hr0⟩ : ∃ z, rws l acts span k = z := ⟨_, rfl⟩
                      rw [hr0] at HW HRS HBD
                      clear hr0 o1 o2 o4 o5
                      have HBx := Lib.hid (HB.out.alloc HB.out.size (.cells #[.string sid, .string sp, .string s, .int .i64 sat] 62))
                      have BA := (Below.refl wr.heap.size wr).alloc (Nat.le_refl _) (.cells #[.string sid, .string sp, .string s, .int .i64 sat] 62)
                      have HWx := Lib.hid (HW.out.below BA)
                      have HRx := Lib.hid (HR.out.below BA)
                      have HX := Lib.hid (XB.new wr [.string sid, .string sp, .string s, .int .i64 sat] 62)
                      simp only [List.toArray] at HX
                      have hqb : bm ≤ wr.heap.size := by have := HW.out.map.lt; omega
                      go_upto_region 39 with (fail)
                      generalize wr.alloc (.cells #[.string sid, .string sp, .string s, .int .i64 sat] 62) = wa at *
                      generalize wr.heap.size = q at *
                      clear c0 c1 c2 c3 HW HB HR BA
                      have x2 := HX.out.2 2 _ rfl
                      have hxl := HX.out.1
                      have hsm : s.size ≤ maxLen := by unfold maxLen; omega
                      have hnm : n1 < maxLen := by unfold maxLen; omega
                      have hk0 : (0 : Int) ≤ (k : Int) := by omega
                      have hk1 : (k : Int) < (nl : Int) := by omega
                      have hlk := HWx.out.map.look Tryz.underlying72 (zero_ptrW _) s hsm
                      by_cases hb : hasS r0.keys s = true
                      · --@y1
                        rw [show ptW r0.keys blk s = _ from RwO.yes hb] at hlk
                        have hmem0 := hasS_mem.1 hb
                        have hak : addK r0.keys s = r0.keys := if_pos hb
                        have HWz : Hid (RwO wa bm n1 bm ⟨addK r0.keys s, r0.f⟩ blk) := Lib.hid (by rw [hak]; exact HWx.out)
                        have hmem : s ∈ (Rws.mk (addK r0.keys s) r0.f).keys := by show s ∈ addK r0.keys s; rw [hak]; exact hmem0
                        clear HWx hb hak hmem0
                        go_upto_region 43 with (fail)
                        clear hlk x2 hxl HX
                        obtain ⟨z0, z1, z2, z3, z4⟩ : wa.cell? ⟨g, k * 5, none⟩ = some (.bool (dd 0)) ∧ wa.cell? ⟨g, k * 5 + 1, none⟩ = some (.bool (dd 1)) ∧ wa.cell? ⟨g, k * 5 + 2, none⟩ = some (.bool (dd 2)) ∧ wa.cell? ⟨g, k * 5 + 3, none⟩ = some (.bool (dd 3)) ∧ wa.cell? ⟨g, k * 5 + 4, none⟩ = some (.bool (dd 4)) := ⟨by
                          have h := HRx.out.cell (k * 5 + 0) (by omega); rw [HDF.out 0 (by omega)] at h; exact h, by
                          have h := HRx.out.cell (k * 5 + 1) (by omega); rw [HDF.out 1 (by omega)] at h; exact h, by
                          have h := HRx.out.cell (k * 5 + 2) (by omega); rw [HDF.out 2 (by omega)] at h; exact h, by
                          have h := HRx.out.cell (k * 5 + 3) (by omega); rw [HDF.out 3 (by omega)] at h; exact h, by
                          have h := HRx.out.cell (k * 5 + 4) (by omega); rw [HDF.out 4 (by omega)] at h; exact h⟩
                        have hzl := HRx.out.lt
                        have CC := Lib.hid (count_any (blk s) s (r0.f s) (dd 0) dd wa (HWz.out.box s hmem) (fun j => Nat.le_trans (HBD.out s j) (by omega)))
                        go_wp2_with fail
                        with_reducible refine CC.out.mono ?_
                        rintro e wc ⟨rfl, gc, oc⟩
                        have hlo := HWz.out.lo_ s hmem
                        have HWc := Lib.hid (HWz.out.cnt hmem gc _ oc)
                        have HRc := Lib.hid (HRx.out.grown gc (fun e => by have := Option.some.inj e; omega))
                        have HBc := Lib.hid (HBx.out.grown gc HBx.out.size (fun g' hg' => by have := Option.some.inj hg'; omega))
                        clear gc oc CC z0 z1 z2 z3 z4 hzl
                        have hRS : rws l acts span (k + 1) = ⟨addK r0.keys s, fun x j => if sameS s x = true then r0.f s j + incN dd j else r0.f x j⟩ := by
                          rw [HRS.out]
                          unfold rwS
                          congr 1
                          funext x j
                          by_cases e : sameS s x = true
                          · rw [if_pos e, if_pos e, sameS_eq.1 e]
                          · rw [if_neg e, if_neg e]
                        go_wp2_with fail
                        go_roundw
                        case rel => exact ⟨k + 1, n1, blk, by omega, by go_num, by omega, by rw [hRS]; exact HWc.out, HRc.out, HBc.out⟩
                        case measure => simp [intOf]; omega
                        --@end
                      · --@y2
                        have hb' : hasS r0.keys s = false := by simpa using hb
                        rw [show ptW r0.keys blk s = _ from RwO.no hb'] at hlk
                        have HWb := Lib.hid (HWx.out.map.alloc (.cells (zRow s).toArray 37))
                        have HRb := Lib.hid (HRx.out.alloc (.cells (zRow s).toArray 37))
                        have HBb := Lib.hid (HBx.out.alloc HBx.out.size (.cells (zRow s).toArray 37))
                        have HXb := Lib.hid (HX.out.alloc (.cells (zRow s).toArray 37))
                        obtain ⟨qz, hqz⟩ : ∃ z, wa.heap.size = z := ⟨_, rfl⟩
                        have HNEW := Lib.hid (fun w2 hv k => HWx.out.new (w2 := w2) hb' hqz (show bm ≤ qz by omega) hv k)
                        have hmem : s ∈ (Rws.mk (addK r0.keys s) r0.f).keys := addK_mem.2 (.inr rfl)
                        rw [show (zRow s).toArray = #[.string s, .int .i64 0, .int .i64 0, .int .i64 0, .int .i64 0, .int .i64 0] from rfl] at HWb HRb HBb HXb HNEW
                        go_upto_region 42 with (fail)
                        generalize wa.alloc (.cells #[.string s, .int .i64 0, .int .i64 0, .int .i64 0, .int .i64 0, .int .i64 0] 37) = wb at *
                        try rw [hqz]
                        clear hlk x2 hxl HX HWx HRx HBx hb hb'
                        have x2 := HXb.out.2 2 _ rfl
                        have hxl := HXb.out.1
                        go_wp2_with (first | (at_mapUpdate; refine wpList_update_vm _ rfl _ _ _ 72 73 rfl Tryz.underlying72 (.pointer none) bm n1 r0.keys (ptW r0.keys blk) rfl HWb.out hnm s (.pointer (some ⟨qz, 0, none⟩)) rfl rfl hsm ?_))
                        intro w9 hv9 g9
                        have HWz := Lib.hid (HNEW.out w9 hv9 g9)
                        have HRz := Lib.hid (HRb.out.grown g9 (fun e => by have := Option.some.inj e; omega))
                        have HBz := Lib.hid (HBb.out.grown g9 HBb.out.size (fun g' hg' => by have := Option.some.inj hg'; omega))
                        clear hv9 g9 HNEW HWb HRb HBb x2 hxl HXb
                        have hblk : (fun x => if sameS s x = true then qz else blk x) s = qz := if_pos (sameS_eq.2 rfl)
                        obtain ⟨blk2, hblk2⟩ : ∃ z : ByteArray → Nat, (fun x => if sameS s x = true then qz else blk x) = z := ⟨_, rfl⟩
                        rw [hblk2] at HWz hblk
                        clear hblk2
                        obtain ⟨z0, z1, z2, z3, z4⟩ : w9.cell? ⟨g, k * 5, none⟩ = some (.bool (dd 0)) ∧ w9.cell? ⟨g, k * 5 + 1, none⟩ = some (.bool (dd 1)) ∧ w9.cell? ⟨g, k * 5 + 2, none⟩ = some (.bool (dd 2)) ∧ w9.cell? ⟨g, k * 5 + 3, none⟩ = some (.bool (dd 3)) ∧ w9.cell? ⟨g, k * 5 + 4, none⟩ = some (.bool (dd 4)) := ⟨by
                          have h := HRz.out.cell (k * 5 + 0) (by omega); rw [HDF.out 0 (by omega)] at h; exact h, by
                          have h := HRz.out.cell (k * 5 + 1) (by omega); rw [HDF.out 1 (by omega)] at h; exact h, by
                          have h := HRz.out.cell (k * 5 + 2) (by omega); rw [HDF.out 2 (by omega)] at h; exact h, by
                          have h := HRz.out.cell (k * 5 + 3) (by omega); rw [HDF.out 3 (by omega)] at h; exact h, by
                          have h := HRz.out.cell (k * 5 + 4) (by omega); rw [HDF.out 4 (by omega)] at h; exact h⟩
                        have hzl := HRz.out.lt
                        have CC := Lib.hid (count_any (blk2 s) s (r0.f s) (dd 0) dd w9 (HWz.out.box s hmem) (fun j => Nat.le_trans (HBD.out s j) (by omega)))
                        rw [hblk] at CC
                        go_wp2_with fail
                        with_reducible refine CC.out.mono ?_
                        rintro e wc ⟨rfl, gc, oc⟩
                        rw [← hblk] at gc oc
                        have hlo := HWz.out.lo_ s hmem
                        have HWc := Lib.hid (HWz.out.cnt hmem gc _ oc)
                        have HRc := Lib.hid (HRz.out.grown gc (fun e => by have := Option.some.inj e; omega))
                        have HBc := Lib.hid (HBz.out.grown gc HBz.out.size (fun g' hg' => by have := Option.some.inj hg'; omega))
                        clear gc oc CC z0 z1 z2 z3 z4 hzl
                        have hRS : rws l acts span (k + 1) = ⟨addK r0.keys s, fun x j => if sameS s x = true then r0.f s j + incN dd j else r0.f x j⟩ := by
                          rw [HRS.out]
                          unfold rwS
                          congr 1
                          funext x j
                          by_cases e : sameS s x = true
                          · rw [if_pos e, if_pos e, sameS_eq.1 e]
                          · rw [if_neg e, if_neg e]
                        go_wp2_with fail
                        go_roundw
                        case rel => exact ⟨k + 1, (n1 + 1), blk2, by omega, by go_num, by omega, by rw [hRS]; exact HWc.out, HRc.out, HBc.out⟩
                        case measure => simp [intOf]; omega
                        --@end
                      --@end
                    · --@r5
                      obtain rfl : nl = k := by omega
                      obtain ⟨c, hc⟩ : ∃ z, rws l acts span nl = z := ⟨_, rfl⟩
                      have hng : nl ≤ l.length := by have := HN.out; omega
                      have HSK : Hid (∀ s, s ∈ c.keys → s.size ≤ 100) := Lib.hid (by rw [← hc]; exact rws_keys l acts span (fun s => s.size ≤ 100) (fun x hx => (HOK.out x hx).2.2.1) nl hng)
                      have hnd : c.keys.Nodup := by rw [← hc]; exact rws_nodup l acts span nl
                      have hkl : c.keys.length ≤ 1000 := by rw [← hc]; exact Nat.le_trans (rws_len l acts span nl) hn1
                      have HBD : Hid (∀ s j, c.f s j ≤ 1000) := Lib.hid (fun s j => by rw [← hc]; exact Nat.le_trans (rws_bd l acts span nl s j) hn1)
                      rw [hc] at HW HLL
                      clear hc HR HI HOK HND
                      have CK := Lib.hid (keysW_any (some bm) wr)
                      have CSK := Lib.hid (sortedW_keys wr (.pointer none) bm n1 c.keys (ptW c.keys blk) HW.out.map hnd (by omega))
                      have HBk := Lib.hid (HB.out.alloc HB.out.size (.cells #[.map (some bm)] 72))
                      have HWk := Lib.hid (HW.out.below ((Below.refl wr.heap.size wr).alloc (Nat.le_refl _) (.cells #[.map (some bm)] 72)))
                      have hsk : (wr.alloc (.cells #[.map (some bm)] 72)).heap.size = wr.heap.size + 1 := World.size_alloc _ _
                      clear HW HB
                      go_wp2_with fail
                      with_reducible refine CK.out.mono ?_
                      rintro e wk ⟨rfl, rfl⟩
                      go_wp2_with fail
                      with_reducible refine CSK.out.mono ?_
                      rintro e ws ⟨vs, rfl, hOS, bs⟩
                      obtain ⟨m, hm9⟩ : ∃ z, c.keys.length = z := ⟨_, rfl⟩
                      have HMK := Lib.hid hm9
                      rw [hm9] at hOS hkl
                      obtain ⟨as_, cs, hvs, -, -⟩ := rowW_shape hOS
                      subst hvs
                      have bs' : Below (wr.alloc (.cells #[.map (some bm)] 72)).heap.size (wr.alloc (.cells #[.map (some bm)] 72)) ws := by rw [hsk]; exact bs
                      have HW5 := Lib.hid (HWk.out.below bs')
                      have HB5 := Lib.hid (HBk.out.trans (bs'.mono HBk.out.size))
                      have HO5 := Lib.hid hOS
                      clear HWk HBk bs bs' hOS CK CSK hm9
                      obtain ⟨B3, hB3⟩ : ∃ z, ws.heap.size = z := ⟨_, rfl⟩
                      have HBLK : Hid (bm < B3 ∧ (∀ s, s ∈ c.keys → blk s < B3) ∧ ∀ g, (Value.slice as_ m cs).ownBlock = some g → g < B3) := Lib.hid (by rw [← hB3]; exact ⟨HW5.out.map.lt, fun s hs => (HW5.out.box s hs).lt, fun g hg => (HO5.out.lt g hg).2⟩)
                      have hwB3 : w.heap.size ≤ B3 := by rw [← hB3]; exact HB5.out.size
                      have hsB : B3 ≤ ws.heap.size := by omega
                      clear hB3
                      go_wp2_with fail
                      go_loopw [24, 26, 150] (fun v19 _ i wx => ∃ (k : Nat) (v : Value), k ≤ m ∧ i = .int .i64 k ∧ v = v19 ∧ wx.ownsRow B3 37 6 v k (((rwL c).take k).flatMap Rw.cells) ∧ RwO wx bm n1 bm c blk ∧ wx.ownsRow (wr.heap.size + 1) 9 1 (.slice as_ m cs) m ((ordK c.keys).map Value.string) ∧ Below w.heap.size w wx ∧ B3 ≤ wx.heap.size) (fun _ _ i _ => m - (intOf i).toNat)
                      case atStart => exact ⟨0, _, Nat.zero_le _, rfl, rfl, World.ownsRow_nil _ _ _ _, HW5.out, HO5.out, HB5.out, hsB⟩
                      case round =>
                        obtain ⟨k, v, hk9, rfl, rfl, hO, hC, hS, hB, hsz⟩ := hrel
                        have HO := Lib.hid hO
                        have HC := Lib.hid hC
                        have HS := Lib.hid hS
                        have HB := Lib.hid hB
                        clear HW5 HO5 HB5 hO hC hS hB
                        by_cases hlt9 : k < m
                        · have hkk : k < (ordK c.keys).length := by rw [(ordK_perm c.keys).length_eq, HMK.out]; exact hlt9
                          obtain ⟨gs9, caps, hvs, hbs9, hls⟩ := HS.out.form (by omega)
                          injection hvs with e1 e2 e3
                          subst e1 e3
                          have cS := HS.out.cellAt k (by omega)
                          rw [List.getElem?_map, List.getElem?_eq_getElem hkk] at cS
                          have hkc : k < (rwL c).length := by unfold rwL; rw [List.length_map]; exact hkk
                          have HTK := Lib.hid (show ((rwL c).take (k + 1)).flatMap Rw.cells = ((rwL c).take k).flatMap Rw.cells ++ (c.at_ (ordK c.keys)[k]).cells by
                            rw [List.take_succ_eq_append_getElem hkc, List.flatMap_append, rwL_at c k hkc hkk]
                            simp)
                          have hsx : (ordK c.keys)[k] ∈ c.keys := (ordK_perm c.keys).mem_iff.1 (List.getElem_mem hkk)
                          generalize (ordK c.keys)[k] = s at *
                          have hsm : s.size ≤ maxLen := by have := HSK.out s hsx; unfold maxLen; omega
                          have hlk := HC.out.map.look Tryz.underlying72 (zero_ptrW _) s hsm
                          rw [show ptW c.keys blk s = _ from RwO.yes (hasS_mem.2 hsx)] at hlk
                          have B0 := HC.out.box s hsx
                          have b0' := B0.cell 0 _ rfl
                          have b1' := B0.cell 1 _ rfl
                          have b2' := B0.cell 2 _ rfl
                          have b3' := B0.cell 3 _ rfl
                          have b4' := B0.cell 4 _ rfl
                          have b5' := B0.cell 5 _ rfl
                          have hbl := B0.lt
                          clear B0
                          obtain ⟨n1', hn1⟩ : ∃ z, c.f s 1 = z := ⟨_, rfl⟩
                          obtain ⟨n2', hn2⟩ : ∃ z, c.f s 2 = z := ⟨_, rfl⟩
                          obtain ⟨n3', hn3⟩ : ∃ z, c.f s 3 = z := ⟨_, rfl⟩
                          obtain ⟨n4', hn4⟩ : ∃ z, c.f s 4 = z := ⟨_, rfl⟩
                          obtain ⟨n5', hn5⟩ : ∃ z, c.f s 5 = z := ⟨_, rfl⟩
                          rw [show (c.at_ s).cells = [.string s, .int .i64 (n1' : Int), .int .i64 (n2' : Int), .int .i64 (n3' : Int), .int .i64 (n4' : Int), .int .i64 (n5' : Int)] by rw [← hn1, ← hn2, ← hn3, ← hn4, ← hn5]; rfl] at HTK
                          replace b0' : wr.cell? ⟨blk s, 0, none⟩ = some (.string s) := b0'
                          replace b1' : wr.cell? ⟨blk s, 1, none⟩ = some (.int .i64 (n1' : Int)) := by rw [← hn1]; exact b1'
                          replace b2' : wr.cell? ⟨blk s, 2, none⟩ = some (.int .i64 (n2' : Int)) := by rw [← hn2]; exact b2'
                          replace b3' : wr.cell? ⟨blk s, 3, none⟩ = some (.int .i64 (n3' : Int)) := by rw [← hn3]; exact b3'
                          replace b4' : wr.cell? ⟨blk s, 4, none⟩ = some (.int .i64 (n4' : Int)) := by rw [← hn4]; exact b4'
                          replace b5' : wr.cell? ⟨blk s, 5, none⟩ = some (.int .i64 (n5' : Int)) := by rw [← hn5]; exact b5'
                          clear hn1 hn2 hn3 hn4 hn5
                          have BA := (Below.refl wr.heap.size wr).alloc (Nat.le_refl _) (.cells #[.string s, .int .i64 (n1' : Int), .int .i64 (n2' : Int), .int .i64 (n3' : Int), .int .i64 (n4' : Int), .int .i64 (n5' : Int)] 37)
                          have HOa := Lib.hid (rowW_below HO.out BA)
                          have HCa := Lib.hid (HC.out.below BA)
                          have HSa := Lib.hid (rowW_below HS.out BA)
                          have HBa := Lib.hid (HB.out.alloc HB.out.size (.cells #[.string s, .int .i64 (n1' : Int), .int .i64 (n2' : Int), .int .i64 (n3' : Int), .int .i64 (n4' : Int), .int .i64 (n5' : Int)] 37))
                          have HNW : Hid (∀ j u, ([.string s, .int .i64 (n1' : Int), .int .i64 (n2' : Int), .int .i64 (n3' : Int), .int .i64 (n4' : Int), .int .i64 (n5' : Int)] : List Value)[j]? = some u → (wr.alloc (.cells #[.string s, .int .i64 (n1' : Int), .int .i64 (n2' : Int), .int .i64 (n3' : Int), .int .i64 (n4' : Int), .int .i64 (n5' : Int)] 37)).cell? ((⟨wr.heap.size, 0, none⟩ : Addr).add j) = some u) := Lib.hid (fun j u h => World.news_of_block (heap_alloc_new wr (.cells #[.string s, .int .i64 (n1' : Int), .int .i64 (n2' : Int), .int .i64 (n3' : Int), .int .i64 (n4' : Int), .int .i64 (n5' : Int)] 37)) j u h)
                          have HSb : Hid (B3 ≤ (wr.alloc (.cells #[.string s, .int .i64 (n1' : Int), .int .i64 (n2' : Int), .int .i64 (n3' : Int), .int .i64 (n4' : Int), .int .i64 (n5' : Int)] 37)).heap.size) := Lib.hid (by rw [World.size_alloc]; omega)
                          have HOB : Hid (∀ g, v.ownBlock = some g → B3 ≤ g) := Lib.hid (fun g hg => (HO.out.lt g hg).1)
                          have hmy : k + 1 ≤ maxLen := by unfold maxLen; omega
                          have hmb : (k + 1) * 56 ≤ 140737488355328 := by omega
                          clear HO HC HS HB BA
                          go_wp2_with (first | (at_builtin; refine wpList_append_lies _ rfl _ _ 31 rfl B3 37 i0 _ 6 56 Tryz.underlying31 hi hz0 hz1 hz2 rfl (by decide) v k _ rfl HOa.out ⟨wr.heap.size, 0, none⟩ 1 1 [.string s, .int .i64 (n1' : Int), .int .i64 (n2' : Int), .int .i64 (n3' : Int), .int .i64 (n4' : Int), .int .i64 (n5' : Int)] rfl rfl HNW.out ?ca2 Nat.one_pos hmy hmb HSb.out _ rfl ?_))
                          case ca2 => simp [Value.oneCell']
                          intro gq cq9 w8 own8 grow8 at8 lt8
                          have HO9 : Hid (w8.ownsRow B3 37 6 (.slice (some ⟨gq, 0, none⟩) (k + 1) cq9) (k + 1) (((rwL c).take (k + 1)).flatMap Rw.cells)) := Lib.hid (by rw [HTK.out]; exact own8)
                          have HC9 := Lib.hid (HCa.out.grown grow8 (fun e => by have := HOB.out bm e; have := HBLK.out.1; omega) (fun t ht e => by have := HOB.out _ e; have := HBLK.out.2.1 t ht; omega))
                          have HS9 := Lib.hid (rowW_grown HSa.out grow8 (fun g hg e => by have := HOB.out g e; have := HBLK.out.2.2 g hg; omega))
                          have HB9 := Lib.hid (HBa.out.grown grow8 HBa.out.size (fun g hg => by have := HOB.out g hg; omega))
                          have hs9 : B3 ≤ w8.heap.size := Nat.le_trans HSb.out grow8.size
                          clear own8 grow8 at8 lt8 HOa HCa HSa HBa HNW HSb HOB hlk b0' b1' b2' b3' b4' b5' hbl cS
                          go_wp2_with fail
                          go_roundw
                          case rel => exact ⟨k + 1, _, by omega, by go_num, rfl, HO9.out, HC9.out, HS9.out, HB9.out, hs9⟩
                          case measure => simp [intOf]; omega
                        · obtain rfl : m = k := by omega
                          have HLN : Hid ((rwL c).length = m) := Lib.hid (by unfold rwL; rw [List.length_map, (ordK_perm c.keys).length_eq, HMK.out])
                          rw [show (rwL c).take m = rwL c by rw [← HLN.out, List.take_length], ← HLN.out] at HO
                          obtain ⟨av, cv, hv, hr, -, -⟩ := RAt.of_own HO.out (fun x _ => x.len)
                          have HRR := Lib.hid (show RwIs wr v (rwL c) from ⟨av, cv, hv, hr⟩)
                          rw [HLN.out] at hv
                          subst hv
                          clear hr HO HC HS
                          go_wp2_with fail
                          refine bodyPost_ret (v := .tuple #[.slice av m cv, .int .i64 0]) (by simp [results, Tryz.results8, go_sem]) rfl ?_
                          exact ⟨_, rfl, by rw [HLL.out]; exact HRR.out, HB.out⟩
                      --@end
  · have e1 : (SE == 0) = false := by simpa using h1
    have e2 : (SE != 0) = true := by simpa using h1
    obtain rfl : E = SE := HE.out.trans (if_pos h1)
    obtain rfl := FAIL.out h1
    go_wp2_with fail
    refine bodyPost_ret (v := .tuple #[.slice none 0 0, .int .i64 E]) (by simp [results, Tryz.results8, go_sem]) rfl ?_
    exact ⟨_, rfl, RwIs.nil _, HB1.out⟩
end Go.Proofs.YtgdagknjnidmiaaGreatDoor
