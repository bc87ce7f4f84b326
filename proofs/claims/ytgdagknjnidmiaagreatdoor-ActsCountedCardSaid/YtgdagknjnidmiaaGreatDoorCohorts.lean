/- measure.Cohorts (printed by gen_coh.py). -/
import Derived.Test.YtgdagknjnidmiaaGreatDoorCohP
import Derived.Test.YtgdagknjnidmiaaGreatDoorVStruct
import Derived.Test.YtgdagknjnidmiaaGreatDoorOutR
import Derived.Test.YtgdagknjnidmiaaGreatDoorCheckActs
import Derived.Test.YtgdagknjnidmiaaGreatDoorRwO
import Derived.Deep.RegionWith
import Derived.Deep.Cut
import Derived.Deep.QuietTactic
import Derived.BigQuiet
set_option linter.unusedVariables false
namespace Go.Proofs.YtgdagknjnidmiaaGreatDoor
open Go.RowKit Go.Maps

theorem co_old (acts : List Ac) (L k : Nat) (hk : k < acts.length) (h : hasS (ckK acts k) acts[k].sent = true ∧ ¬ perN L acts[k] < cFst acts L k acts[k].sent) : ckK acts (k + 1) = ckK acts k ∧ (fun t => Value.int .i64 (cFst acts L (k + 1) t : Int)) = fun t => .int .i64 (cFst acts L k t : Int) := by
  refine ⟨?_, funext fun t => ?_⟩
  · rw [ckK_succ _ _ hk]; exact if_pos h.1
  · rw [cFst_succ _ _ _ hk]
    by_cases e : sameS acts[k].sent t = true
    · have es := sameS_eq.1 e
      rw [if_pos e, if_pos (by rw [← es]; exact h)]
    · rw [if_neg e]
theorem co_new (acts : List Ac) (L k : Nat) (hk : k < acts.length) (h : ¬ (hasS (ckK acts k) acts[k].sent = true ∧ ¬ perN L acts[k] < cFst acts L k acts[k].sent)) : putV (fun t => .int .i64 (cFst acts L k t : Int)) acts[k].sent (.int .i64 (perN L acts[k] : Int)) = fun t => .int .i64 (cFst acts L (k + 1) t : Int) := by
  funext t
  unfold putV
  rw [cFst_succ _ _ _ hk]
  by_cases e : sameS acts[k].sent t = true
  · have es := sameS_eq.1 e
    rw [if_pos e, if_pos e, if_neg (by rw [← es]; exact h)]
  · rw [if_neg e, if_neg e]
/-- what the set holds -/
def sF (F : ByteArray → Nat) (n : Nat) (H : ByteArray → Nat → Bool) (s : ByteArray) (p : Nat) : Bool := H s p && (decide (F s < n) && decide (p - F s < n))
theorem sF_stay {F : ByteArray → Nat} {n : Nat} {H H' : ByteArray → Nat → Bool} {s : ByteArray} {p : Nat} (hH : ∀ t q, H' t q = (H t q || (sameS s t && decide (p = q)))) (h : H s p = true ∨ ¬ (F s < n ∧ p - F s < n)) : sF F n H' = sF F n H := by
  funext t q
  unfold sF
  rw [hH]
  by_cases e : sameS s t = true
  · have es := sameS_eq.1 e
    subst es
    by_cases hp : p = q
    · subst hp
      rcases h with h | h
      · rw [h, Bool.true_or]
      · have : (decide (F s < n) && decide (p - F s < n)) = false := by
          by_cases h1 : F s < n
          · rw [decide_eq_false (fun h2 => h ⟨h1, h2⟩), Bool.and_false]
          · rw [decide_eq_false h1]; rfl
        rw [this, Bool.and_false, Bool.and_false]
    · rw [decide_eq_false hp, Bool.and_false, Bool.or_false]
  · have e' : sameS s t = false := by simpa using e
    rw [e', Bool.false_and, Bool.or_false]
theorem sF_more {F : ByteArray → Nat} {n : Nat} {H H' : ByteArray → Nat → Bool} {s : ByteArray} {p : Nat} (hH : ∀ t q, H' t q = (H t q || (sameS s t && decide (p = q)))) (h1 : F s < n) (h2 : p - F s < n) : (fun t q => sF F n H t q || (sameS s t && decide (p = q))) = sF F n H' := by
  funext t q
  unfold sF
  rw [hH]
  by_cases e : sameS s t = true
  · have es := sameS_eq.1 e
    subst es
    by_cases hp : p = q
    · subst hp
      rw [e, decide_eq_true rfl, decide_eq_true h1, decide_eq_true h2]
      simp
    · rw [decide_eq_false hp, Bool.and_false, Bool.or_false, Bool.or_false]
  · have e' : sameS s t = false := by simpa using e
    rw [e', Bool.false_and, Bool.or_false, Bool.or_false]
theorem zero_intC {w : World} : (zeroValue 3).run Tryz.prog w = .ok (.int .i64 0) w := by kernel_rfl
theorem zero_boolC {w : World} : (zeroValue 4).run Tryz.prog w = .ok (.bool false) w := by kernel_rfl
theorem infoSlC : (Tryz.prog.info? 22).map (fun i => (i.zero, i.size, i.bytes)) = some (some (.slice none 0 0), 1, 24) := by kernel_rfl
theorem infoInC : (Tryz.prog.info? 3).map (fun i => (i.zero, i.size, i.bytes)) = some (some (.int .i64 0), 1, 8) := by kernel_rfl
theorem per_div (L : Nat) (x : Ac) (h0 : 0 ≤ x.at_) (h1 : x.at_ ≤ 4321439) (hL : 1 ≤ L) : x.at_.tdiv (L : Int) = (perN L x : Int) ∧ perN L x ≤ 4321439 := by
  unfold perN
  obtain ⟨n, hn⟩ : ∃ n : Nat, x.at_ = (n : Int) := ⟨x.at_.toNat, by omega⟩
  rw [hn, Int.tdiv_eq_ediv_of_nonneg (by omega), Int.toNat_natCast]
  refine ⟨by simp, ?_⟩
  have := Nat.div_le_self n L
  omega
def ChIs (w : World) (v : Value) (acts : List Ac) (len many : Int) : Prop := if chE acts len many = 0 then TabIs w v many.toNat (coA acts len.toNat) else v = .slice none 0 0

set_option maxRecDepth 100000 in
set_option maxHeartbeats 16000000 in
theorem Cohorts_any (ac : Option Addr) (acts : List Ac) (na ca : Nat) (len many : Int) (w : World) (hm : acts.length = na) (hm1 : na ≤ 1000) (hJ : RAt w ac 3 Ac.cells acts) (hoka : ∀ x ∈ acts, x.ok) :
    Calls Tryz.prog 11 #[.slice ac na ca, .int .i64 len, .int .i64 many] w fun e w' => ∃ v, e = .returned (.tuple #[v, .int .i64 (chE acts len many)]) ∧ ChIs w' v acts len many ∧ Below w.heap.size w w' := by
  obtain ⟨i0, hi, hz0, hz1, hz2⟩ := info_parts infoSlC
  obtain ⟨j0, hj, hy0, hy1, hy2⟩ := info_parts infoInC
  have hmm := @run_makeMap Tryz.prog
  have HJ := Lib.hid hJ
  have HM := Lib.hid hm
  have HOA := Lib.hid hoka
  have HE : Hid (chE acts len many = if acsF acts ≠ 0 then acsF acts else if len < 1 ∨ 4321440 < len ∨ many < 1 ∨ 60 < many then 1 else 0) := Lib.hid rfl
  obtain ⟨CHI, hCHI⟩ : ∃ P : World → Value → Prop, ∀ w v, P w v = ChIs w v acts len many := ⟨_, fun _ _ => rfl⟩
  have HCI : Hid (∀ w v, CHI w v ↔ if chE acts len many = 0 then TabIs w v many.toNat (coA acts len.toNat) else v = .slice none 0 0) := Lib.hid (fun w v => by rw [hCHI]; exact Iff.rfl)
  obtain ⟨E, hE⟩ : ∃ z, chE acts len many = z := ⟨_, rfl⟩
  simp only [← hCHI]
  rw [hE] at HE HCI
  rw [hE]
  obtain ⟨AF, hAF⟩ : ∃ z, acsF acts = z := ⟨_, rfl⟩
  have HAF := Lib.hid hAF
  have CA := Lib.hid (CheckActs_any ac acts na ca w hm hm1 hJ hoka)
  rw [hAF] at HE CA
  clear hm hJ hoka hAF hE hCHI
  have FAIL : Hid (E ≠ 0 → ∀ w, CHI w (.slice none 0 0)) := Lib.hid (fun h w => (HCI.out w _).2 (by rw [if_neg h]))
  go_enter Tryz.func11, Tryz.ntmps11
  go_wp2_with fail
  with_reducible refine CA.out.mono ?_
  rintro e w1 ⟨rfl, b1⟩
  have HB1 := Lib.hid b1
  clear CA b1
  by_cases h1 : AF = 0
  · subst h1
    by_cases hl : 1 ≤ len ∧ len ≤ 4321440
    · go_wp2_with fail
      with_reducible refine (within_yes _ _ _ _ hl.1 hl.2).mono ?_
      rintro e w2 ⟨rfl, rfl⟩
      by_cases hy : 1 ≤ many ∧ many ≤ 60
      · go_wp2_with fail
        with_reducible refine (within_yes _ _ _ _ hy.1 hy.2).mono ?_
        rintro e w2 ⟨rfl, rfl⟩
        obtain rfl : E = 0 := by have h := HE.out; rw [if_neg (by simp), if_neg (by omega)] at h; exact h
        obtain ⟨L, hL⟩ : ∃ L : Nat, len = (L : Int) := ⟨len.toNat, by omega⟩
        obtain ⟨n, hn⟩ : ∃ n : Nat, many = (n : Int) := ⟨many.toNat, by omega⟩
        subst hL hn
        have HTB : Hid (∀ w v, TabIs w v n (coA acts L) → CHI w v) := Lib.hid (fun w v h => (HCI.out w v).2 (by rw [if_pos rfl, Int.toNat_natCast, Int.toNat_natCast]; exact h))
        obtain ⟨hl1, hl2⟩ := hl
        obtain ⟨hn1, hn2⟩ := hy
        have hL0 : (L : Int) ≠ 0 := by omega
        have hLe : ((L : Int) == 0) = false := by simpa using hL0
        clear HE FAIL HCI
        have HGD := Lib.hid (fun a ha => acfE_zero (acsF_good HAF.out a ha))
        have HV0 : Hid (VM (w1.alloc (.map #[] 0)) (.int .i64 0) w1.heap.size 0 (ckK acts 0) (fun t => .int .i64 (cFst acts L 0 t : Int))) := Lib.hid (VM.made w1 (.int .i64 0))
        have HB2 := Lib.hid (HB1.out.alloc HB1.out.size (.map #[] 0))
        obtain ⟨b, hb⟩ : ∃ z, w1.heap.size = z := ⟨_, rfl⟩
        rw [hb] at HV0
        have hwb : w.heap.size ≤ b := by rw [← hb]; exact HB1.out.size
        clear HB1
        go_upto_region 7 with (fail)
        generalize w1.alloc (.map #[] 0) = w2 at *
        try rw [hb]
        clear hb
        go_wp2_with fail
        go_loopw [11, 12, 13, 14, 38] (fun _ _ _ _ i wr => ∃ (k n1 : Nat), k ≤ na ∧ i = .int .i64 k ∧ n1 ≤ k ∧ VM wr (.int .i64 0) b n1 (ckK acts k) (fun t => .int .i64 (cFst acts L k t : Int)) ∧ Below w.heap.size w wr) (fun _ _ _ _ i _ => na - (intOf i).toNat)
        case atStart => exact ⟨0, 0, Nat.zero_le _, rfl, Nat.le_refl _, HV0.out, HB2.out⟩
        case round =>
          obtain ⟨k, n1, hk, rfl, hn1', hV, hB⟩ := hrel
          have HV := Lib.hid hV
          have HB := Lib.hid hB
          clear HV0 HB2 hV hB
          by_cases hlt : k < na
          · --@r1
            have hkl : k < acts.length := by have := HM.out; omega
            obtain ⟨p, off, hap, hp, c0, c1, c2⟩ := rat3 (HJ.out.below HB.out) hkl (v0 := .string acts[k].sent) (v1 := .int .i64 acts[k].kind) (v2 := .int .i64 acts[k].at_) rfl
            subst hap
            obtain ⟨o1, o2, o3, o4, o5⟩ := HOA.out acts[k] (List.getElem_mem hkl)
            obtain ⟨g1, g2, g3, g4⟩ := HGD.out acts[k] (List.getElem_mem hkl)
            obtain ⟨hq, hpb⟩ := per_div L acts[k] g3 g4 (by omega)
            have HOLD := Lib.hid (co_old acts L k hkl)
            have HNEW := Lib.hid (co_new acts L k hkl)
            have HCK := Lib.hid (ckK_succ acts k hkl)
            have hcb := cFst_bd acts L 4321439 (fun a ha => (per_div L a (HGD.out a ha).2.2.1 (HGD.out a ha).2.2.2 (by omega)).2) k acts[k].sent (by omega)
            obtain ⟨P, hP⟩ : ∃ z, perN L acts[k] = z := ⟨_, rfl⟩
            rw [hP] at HOLD HNEW hq hpb
            clear hP
            generalize acts[k] = x at *
            obtain ⟨aid, ak, aat⟩ := x
            simp only at c0 c1 c2 o1 g3 g4 hq HOLD HNEW HCK hcb
            have HBx := Lib.hid (HB.out.alloc HB.out.size (.cells #[.string aid, .int .i64 ak, .int .i64 aat] 65))
            have HVx := Lib.hid (HV.out.alloc (.cells #[.string aid, .int .i64 ak, .int .i64 aat] 65))
            have HX := Lib.hid (XB.new wr [.string aid, .int .i64 ak, .int .i64 aat] 65)
            simp only [List.toArray] at HX
            go_upto_region 10 with (fail)
            generalize wr.alloc (.cells #[.string aid, .int .i64 ak, .int .i64 aat] 65) = wa at *
            generalize wr.heap.size = q at *
            clear c0 c1 c2 HV HB
            have x0 := HX.out.2 0 _ rfl
            have x2 := HX.out.2 2 _ rfl
            have hxl := HX.out.1
            have hsm : aid.size ≤ maxLen := by unfold maxLen; omega
            have hnm : n1 < maxLen := by unfold maxLen; omega
            have hlk := HVx.out.look_ok Tryz.underlying67 zero_intC aid hsm
            have hwp : IntKind.i64.wrap (P : Int) = (P : Int) := by rw [IntKind.wrap_i64]; omega
            obtain ⟨old, hold⟩ : ∃ z, cFst acts L k aid = z := ⟨_, rfl⟩
            have HOL := Lib.hid hold
            simp only [hold] at hlk hcb
            clear hold
            obtain ⟨hb, hhb⟩ : ∃ z, hasS (ckK acts k) aid = z := ⟨_, rfl⟩
            have HHB := Lib.hid hhb
            rw [hhb] at hlk
            clear hhb
            cases hb with
            | false =>
              have HN1 := Lib.hid (HNEW.out (by rw [HHB.out]; simp))
              go_wp2_with (first | (at_mapUpdate; refine wpList_update_vm _ rfl _ _ _ 67 3 rfl Tryz.underlying67 (.int .i64 0) b n1 _ _ rfl HVx.out hnm aid (.int .i64 (P : Int)) rfl rfl hsm ?_))
              intro w9 hv9 g9
              rw [HN1.out, ← HCK.out] at hv9
              have HV9 := Lib.hid hv9
              have HB9 := Lib.hid (HBx.out.grown g9 HBx.out.size (fun g hg => by have := Option.some.inj hg; omega))
              clear hv9 g9 HVx HBx HX x0 x2 hxl hlk HN1
              go_wp2_with fail
              go_roundw
              case rel => exact ⟨k + 1, n1 + 1, by omega, by go_num, by omega, HV9.out, HB9.out⟩
              case measure => simp [intOf]; omega
            | true =>
              by_cases hlp : P < old
              · have hlp' : (P : Int) < (old : Int) := by omega
                have HN1 := Lib.hid (HNEW.out (by rw [HHB.out, HOL.out]; omega))
                go_wp2_with (first | (at_mapUpdate; refine wpList_update_vm _ rfl _ _ _ 67 3 rfl Tryz.underlying67 (.int .i64 0) b n1 _ _ rfl HVx.out hnm aid (.int .i64 (P : Int)) rfl rfl hsm ?_))
                intro w9 hv9 g9
                rw [HN1.out, ← HCK.out] at hv9
                have HV9 := Lib.hid hv9
                have HB9 := Lib.hid (HBx.out.grown g9 HBx.out.size (fun g hg => by have := Option.some.inj hg; omega))
                clear hv9 g9 HVx HBx HX x0 x2 hxl hlk HN1
                go_wp2_with fail
                go_roundw
                case rel => exact ⟨k + 1, n1 + 1, by omega, by go_num, by omega, HV9.out, HB9.out⟩
                case measure => simp [intOf]; omega
              · have hlp' : ¬ (P : Int) < (old : Int) := by omega
                obtain ⟨e1, e2⟩ := HOLD.out ⟨HHB.out, by rw [HOL.out]; exact hlp⟩
                go_wp2_with fail
                go_roundw
                case rel => exact ⟨k + 1, n1, by omega, by go_num, by omega, by rw [e1, e2]; exact HVx.out, HBx.out⟩
                case measure => simp [intOf]; omega
            --@end
          · obtain rfl : na = k := by omega
            obtain ⟨F, hF⟩ : ∃ F : ByteArray → Nat, (fun t => cFst acts L na t) = F := ⟨_, rfl⟩
            have hVF : VM wr (.int .i64 0) b n1 (ckK acts na) (fun t => .int .i64 (F t : Int)) := by rw [← hF]; exact HV.out
            have HVF := Lib.hid hVF
            have HMIN : Hid (∀ k (hk : k < acts.length), F acts[k].sent ≤ perN L acts[k] ∧ acts[k].sent ∈ ckK acts na) := Lib.hid (fun k hk => by
              have hmem : acts[k] ∈ acts.take na := by rw [← HM.out, List.take_length]; exact List.getElem_mem hk
              have hin := (ckK_mem acts na (by rw [HM.out]; exact Nat.le_refl _) acts[k].sent).2 ⟨_, hmem, rfl⟩
              rw [← hF]
              exact ⟨(cFst_min acts L na (by rw [HM.out]; exact Nat.le_refl _) _ hin).2 _ hmem rfl, hin⟩)
            have HCO : Hid (∀ i j, coC (ckK acts na) F (cHas acts L na) i j = coA acts L i j) := Lib.hid (fun i j => by unfold coA; rw [HM.out, ← hF])
            have HKN := Lib.hid (ckK_nodup acts na)
            have HKL := Lib.hid (ckK_len acts na)
            generalize ckK acts na = ks at *
            clear HV hVF hF
            obtain ⟨go, hgo⟩ : ∃ z, wr.heap.size = z := ⟨_, rfl⟩
            have hbg : b < go := by rw [← hgo]; exact HVF.out.lt
            have hwg : w.heap.size ≤ go := by rw [← hgo]; exact HB.out.size
            have HVB := Lib.hid (fun w' (k : wr.grownBy w' none) => (⟨HVF.out.kept k (by simp), HB.out.grown k HB.out.size (fun g hg => by cases hg)⟩ : VM w' (.int .i64 0) b n1 ks (fun t => .int .i64 (F t : Int)) ∧ Below w.heap.size w w'))
            clear HVF HB
            go_wp2_with (first | (refine wpList_make_row _ rfl _ _ 38 rfl 22 i0 (.slice none 0 0) Tryz.underlying38 hi hz0 hz1 rfl n (by go_simp) (by go_simp) (by rw [hz2]; omega) (by unfold maxLen; omega) ?_) | fail)
            intro wt hrt hgt hst
            obtain ⟨hV2, hB2⟩ := HVB.out wt hgt
            try rw [hgo] at hrt
            try rw [hgo] at hst
            try rw [hgo]
            have HO0 := Lib.hid (OutR.start hrt (fun _ => 0) (fun _ _ => 0))
            have HV2 := Lib.hid hV2
            have HB2 := Lib.hid hB2
            clear hV2 hB2 hrt hgt HVB hgo
            go_wp2_with fail
            go_loopw [16, 69] (fun _ i wx => ∃ (k : Nat) (rb : Nat → Nat), k ≤ n ∧ i = .int .i64 k ∧ OutR wx go n k rb (fun _ _ => 0) ∧ VM wx (.int .i64 0) b n1 ks (fun t => .int .i64 (F t : Int)) ∧ Below w.heap.size w wx) (fun _ i _ => n - (intOf i).toNat)
            case atStart => exact ⟨0, _, Nat.zero_le _, rfl, HO0.out, HV2.out, HB2.out⟩
            case round =>
              obtain ⟨k, rb, hk2, rfl, hO, hV, hB⟩ := hrel
              have HO := Lib.hid hO
              have HV := Lib.hid hV
              have HB := Lib.hid hB
              clear HO0 HV2 HB2 hO hV hB
              by_cases hlt2 : k < n
              · --@r2
                have hk0 : (0 : Int) ≤ (k : Int) := by omega
                have hk1 : (k : Int) < (n : Int) := by omega
                obtain ⟨q, hq⟩ : ∃ z, wr.heap.size = z := ⟨_, rfl⟩
                have hgq : go < q := by rw [← hq]; exact HO.out.tab.lt
                go_wp2_with (first | (refine wpList_make_row _ rfl _ _ 22 rfl 3 j0 (.int .i64 0) Tryz.underlying22 hj hy0 hy1 rfl n (by go_simp) (by go_simp) (by rw [hy2]; omega) (by unfold maxLen; omega) ?_) | fail)
                intro wt hrt hgt hst
                try rw [hq] at hrt
                try rw [hq] at hst
                try rw [hq]
                have HO1 := Lib.hid (HO.out.more hlt2 hq hrt hgt (fun _ => rfl))
                have HOt := Lib.hid (HO.out.below hgt)
                have t0 := HOt.out.tab.cell k hlt2
                have t1 := HOt.out.tab.free k hlt2
                have t2 := HOt.out.tab.lt
                rw [if_neg (Nat.lt_irrefl k)] at t0
                have G9 : wt.grownBy (wt.setCell ⟨go, k, none⟩ (.slice (some ⟨q, 0, none⟩) n n)) (some go) := grown_set (p := ⟨go, k, none⟩) (grownO_same wt _) (.inl rfl) _
                have HV9 := Lib.hid ((HV.out.kept hgt (by simp)).kept G9 (fun e => by have := Option.some.inj e; omega))
                have HB9 := Lib.hid ((HB.out.grown hgt HB.out.size (fun g hg => by cases hg)).grown G9 (HB.out.grown hgt HB.out.size (fun g hg => by cases hg)).size (fun g hg => by have := Option.some.inj hg; omega))
                clear HO HV HB hrt hgt G9 HOt hq
                go_wp2_with fail
                go_roundw
                case rel => exact ⟨k + 1, _, by omega, by go_num, HO1.out, HV9.out, HB9.out⟩
                case measure => simp [intOf]; omega
                --@end
              · --@r3
                obtain rfl : n = k := by omega
                have HS0 := Lib.hid (VS.made wr)
                have HOm := Lib.hid ((HO.out.congr (f' := fun i j => coC ks F (cHas acts L 0) i j) (fun i j hi hj => by
                  unfold coC
                  rw [List.filter_eq_nil_iff.2 (fun t _ => by show ¬ (decide (F t = i) && cHas acts L 0 t (i + j)) = true; rw [show cHas acts L 0 t (i + j) = false from rfl, Bool.and_false]; simp)]
                  rfl)).alloc (.map #[] 0))
                have HVm := Lib.hid (HV.out.alloc (.map #[] 0))
                have HBm := Lib.hid (HB.out.alloc HB.out.size (.map #[] 0))
                obtain ⟨bs, hbs⟩ : ∃ z, wr.heap.size = z := ⟨_, rfl⟩
                have HLOb : Hid (go < bs ∧ (∀ i, i < n → rb i < bs) ∧ w.heap.size ≤ bs) := Lib.hid (by rw [← hbs]; exact ⟨HO.out.tab.lt, fun i hi => (HO.out.row i hi).lt, HB.out.size⟩)
                rw [hbs] at HS0
                have HS1 : Hid (VS (wr.alloc (.map #[] 0)) bs 0 (sF F n (cHas acts L 0))) := Lib.hid (by
                  have e : sF F n (cHas acts L 0) = fun _ _ => false := by funext t q; unfold sF; rw [show cHas acts L 0 t q = false from rfl]; rfl
                  rw [e]; exact HS0.out)
                clear HO HV HB HS0
                go_upto_region 22 with (fail)
                generalize wr.alloc (.map #[] 0) = wm at *
                try rw [hbs]
                clear hbs
                go_wp2_with fail
                go_loopw [19, 20, 21, 81] (fun _ _ _ i wx => ∃ (k n2 : Nat), k ≤ na ∧ i = .int .i64 k ∧ n2 ≤ k ∧ OutR wx go n n rb (fun i j => coC ks F (cHas acts L k) i j) ∧ VS wx bs n2 (sF F n (cHas acts L k)) ∧ VM wx (.int .i64 0) b n1 ks (fun t => .int .i64 (F t : Int)) ∧ Below w.heap.size w wx ∧ bs < wx.heap.size) (fun _ _ _ i _ => na - (intOf i).toNat)
                case atStart => exact ⟨0, 0, Nat.zero_le _, rfl, Nat.le_refl _, HOm.out, HS1.out, HVm.out, HBm.out, HS1.out.lt⟩
                case round =>
                  obtain ⟨k, n2, hk3, rfl, hn2', hO, hS, hV, hB, hbl⟩ := hrel
                  have HO := Lib.hid hO
                  have HS := Lib.hid hS
                  have HV := Lib.hid hV
                  have HB := Lib.hid hB
                  clear HOm HS1 HVm HBm hO hS hV hB
                  by_cases hlt3 : k < na
                  · --@r4
                    have hkl : k < acts.length := by have := HM.out; omega
                    obtain ⟨p, off, hap, hp, c0, c1, c2⟩ := rat3 (HJ.out.below HB.out) hkl (v0 := .string acts[k].sent) (v1 := .int .i64 acts[k].kind) (v2 := .int .i64 acts[k].at_) rfl
                    subst hap
                    obtain ⟨o1, o2, o3, o4, o5⟩ := HOA.out acts[k] (List.getElem_mem hkl)
                    obtain ⟨g1, g2, g3, g4⟩ := HGD.out acts[k] (List.getElem_mem hkl)
                    obtain ⟨hq, hpb⟩ := per_div L acts[k] g3 g4 (by omega)
                    obtain ⟨hFp, hin⟩ := HMIN.out k hkl
                    have HH := Lib.hid (fun t q => cHas_succ acts L k hkl t q)
                    obtain ⟨P, hP⟩ : ∃ z, perN L acts[k] = z := ⟨_, rfl⟩
                    rw [hP] at hq hpb hFp
                    simp only [hP] at HH
                    clear hP
                    generalize acts[k] = x at *
                    obtain ⟨aid, ak, aat⟩ := x
                    simp only at c0 c1 c2 o1 g3 g4 hq hFp hin HH
                    have HBx := Lib.hid (HB.out.alloc HB.out.size (.cells #[.string aid, .int .i64 ak, .int .i64 aat] 65))
                    have HVx := Lib.hid (HV.out.alloc (.cells #[.string aid, .int .i64 ak, .int .i64 aat] 65))
                    have HOx := Lib.hid (HO.out.alloc (.cells #[.string aid, .int .i64 ak, .int .i64 aat] 65))
                    have HSx := Lib.hid (HS.out.alloc (.cells #[.string aid, .int .i64 ak, .int .i64 aat] 65))
                    have HX := Lib.hid (XB.new wr [.string aid, .int .i64 ak, .int .i64 aat] 65)
                    simp only [List.toArray] at HX
                    go_upto_region 25 with (fail)
                    generalize wr.alloc (.cells #[.string aid, .int .i64 ak, .int .i64 aat] 65) = wa at *
                    have hqb : bs < wr.heap.size := hbl
                    generalize wr.heap.size = q at *
                    clear c0 c1 c2 HV HB HO HS
                    have x0 := HX.out.2 0 _ rfl
                    have x2 := HX.out.2 2 _ rfl
                    have hxl := HX.out.1
                    have hwp : IntKind.i64.wrap (P : Int) = (P : Int) := by rw [IntKind.wrap_i64]; omega
                    obtain ⟨Fa, hFa⟩ : ∃ z, F aid = z := ⟨_, rfl⟩
                    have HFA := Lib.hid hFa
                    rw [hFa] at hFp
                    obtain ⟨d, hPd⟩ : ∃ d, P = Fa + d := ⟨P - Fa, by omega⟩
                    have hsub : IntKind.i64.wrap ((P : Int) - (Fa : Int)) = (d : Int) := by rw [IntKind.wrap_i64]; omega
                    have HPD := Lib.hid hPd
                    clear hPd
                    have hsm : aid.size ≤ maxLen := by unfold maxLen; omega
                    have hn2m : n2 < maxLen := by unfold maxLen; omega
                    have hP9 : P ≤ 1000000000000 := by omega
                    have G9 : wa.grownBy (wa.alloc (.cells #[.string aid, .int .i64 (P : Int)] 93)).drew none := grown_drew (World.grownBy_alloc wa _ _)
                    have HOb := Lib.hid (HOx.out.below G9)
                    have HSb := Lib.hid (HSx.out.kept G9 (by simp))
                    have HVb := Lib.hid (HVx.out.kept G9 (by simp))
                    have HBb := Lib.hid (HBx.out.grown G9 HBx.out.size (fun g hg => by cases hg))
                    have HXb := Lib.hid (HX.out.grown G9 (by simp))
                    have HDb := Lib.hid ((XB.new wa [.string aid, .int .i64 (P : Int)] 93).grown (grown_drew (grownO_same _ none)) (by simp))
                    simp only [List.toArray] at HDb
                    have hqd : wa.heap.size > bs := by have := HSx.out.lt; omega
                    clear G9 hFa
                    go_region
                    generalize (wa.alloc (.cells #[.string aid, .int .i64 (P : Int)] 93)).drew = wb at *
                    generalize wa.heap.size = qd at *
                    clear HOx HSx HVx HBx HX x0 x2 hxl
                    have x0 := HXb.out.2 0 _ rfl
                    have hxl := HXb.out.1
                    have d0 := HDb.out.2 0 _ rfl
                    have d1 := HDb.out.2 1 _ rfl
                    have hdl := HDb.out.1
                    have hbs9 : bs < wb.heap.size := HSb.out.lt
                    have hlk1 := HVb.out.look Tryz.underlying67 zero_intC aid hsm
                    simp only [HFA.out] at hlk1
                    obtain ⟨sv, hsv⟩ : ∃ z, sF F n (cHas acts L k) aid P = z := ⟨_, rfl⟩
                    have hlk2 := HSb.out.look Tryz.underlying91 zero_boolC aid P hsm hP9
                    rw [hsv, dV] at hlk2
                    have HSV := Lib.hid (show (cHas acts L k aid P && (decide (Fa < n) && decide (P - Fa < n))) = sv by rw [← hsv]; unfold sF; rw [HFA.out])
                    clear hsv
                    cases sv with
                    | true =>
                      have hc : cHas acts L k aid P = true := by have h := HSV.out; rw [Bool.and_eq_true] at h; exact h.1
                      have hHS := sF_stay (F := F) (n := n) HH.out (.inl hc)
                      go_wp2_with fail
                      go_roundw
                      case rel => exact ⟨k + 1, n2, by omega, by go_num, by omega, HOb.out.congr (fun i j hi hj => (co_stay HH.out i j (.inl hc)).symm), by rw [hHS]; exact HSb.out, HVb.out, HBb.out, hbs9⟩
                      case measure => simp [intOf]; omega
                    | false =>
                      by_cases hFn : Fa < n
                      · have hFn' : (Fa : Int) < (n : Int) := by omega
                        by_cases hdn : d < n
                        · have hdn' : (d : Int) < (n : Int) := by omega
                          have hF0 : (0 : Int) ≤ (Fa : Int) := by omega
                          have hd0 : (0 : Int) ≤ (d : Int) := by omega
                          have hc : cHas acts L k aid P = false := by
                            have h := HSV.out
                            rw [decide_eq_true hFn, decide_eq_true (show P - Fa < n by have := HPD.out; omega)] at h
                            simpa using h
                          go_wp2_with (first | (at_mapUpdate; refine wpList_update_vs _ rfl _ _ _ 91 4 rfl Tryz.underlying91 bs n2 _ rfl HSb.out hn2m aid P rfl rfl hsm hP9 ?_))
                          intro w9 hv9 g9
                          rw [sF_more HH.out (by rw [HFA.out]; exact hFn) (by rw [HFA.out]; have := HPD.out; omega)] at hv9
                          have HS9 := Lib.hid hv9
                          have HO9 := Lib.hid (HOb.out.apart g9 (fun e => by have := Option.some.inj e; have := HLOb.out.1; omega) (fun i hi e => by have := Option.some.inj e; have := HLOb.out.2.1 i hi; omega))
                          have HV9 := Lib.hid (HVb.out.kept g9 (fun e => by have := Option.some.inj e; have := HLOb.out.1; omega))
                          have HB9 := Lib.hid (HBb.out.grown g9 HBb.out.size (fun g hg => by have := Option.some.inj hg; have := HLOb.out.2.2; omega))
                          have HX9 := Lib.hid (HXb.out.grown g9 (fun e => by have := Option.some.inj e; omega))
                          have HD9 := Lib.hid (HDb.out.grown g9 (fun e => by have := Option.some.inj e; omega))
                          clear hv9 g9 HSb HOb HVb HBb HXb HDb x0 hxl d0 d1 hdl hlk1 hlk2
                          have d1 := HD9.out.2 1 _ rfl
                          have hdl := HD9.out.1
                          have t0 := HO9.out.tab.cell Fa hFn
                          rw [if_pos hFn] at t0
                          have t1 := HO9.out.tab.lt
                          obtain ⟨N0, hN0⟩ : ∃ z, coC ks F (cHas acts L k) Fa d = z := ⟨_, rfl⟩
                          have hNb : N0 ≤ na := by rw [← hN0]; exact Nat.le_trans (co_le _ _ _ _ _) HKL.out
                          have r0' := (HO9.out.row Fa hFn).cell d hdn
                          simp only [hN0] at r0'
                          have r1' := (HO9.out.row Fa hFn).free d hdn
                          have r2' := (HO9.out.row Fa hFn).lt
                          have hw9 : IntKind.i64.wrap ((N0 : Int) + 1) = (N0 : Int) + 1 := by rw [IntKind.wrap_i64]; omega
                          have hs9 : bs < w9.heap.size := HS9.out.lt
                          have HFIN : Hid (OutR (w9.setCell ⟨rb Fa, d, none⟩ (.int .i64 ((N0 : Int) + 1))).drew go n n rb (fun i j => coC ks F (cHas acts L (k + 1)) i j) ∧ VS (w9.setCell ⟨rb Fa, d, none⟩ (.int .i64 ((N0 : Int) + 1))).drew bs (n2 + 1) (sF F n (cHas acts L (k + 1))) ∧ VM (w9.setCell ⟨rb Fa, d, none⟩ (.int .i64 ((N0 : Int) + 1))).drew (.int .i64 0) b n1 ks (fun t => .int .i64 (F t : Int)) ∧ Below w.heap.size w (w9.setCell ⟨rb Fa, d, none⟩ (.int .i64 ((N0 : Int) + 1))).drew ∧ bs < (w9.setCell ⟨rb Fa, d, none⟩ (.int .i64 ((N0 : Int) + 1))).drew.heap.size) := Lib.hid (by
                            have hgr : w9.grownBy (w9.setCell ⟨rb Fa, d, none⟩ (.int .i64 ((N0 : Int) + 1))).drew (some (rb Fa)) := grown_drew (grown_set (p := ⟨rb Fa, d, none⟩) (grownO_same _ (some (rb Fa))) (.inl rfl) _)
                            have hlo := HO9.out.lo Fa hFn
                            have hhi := HLOb.out.2.1 Fa hFn
                            refine ⟨?_, HS9.out.kept hgr (fun e => by have := Option.some.inj e; omega), HV9.out.kept hgr (fun e => by have := Option.some.inj e; omega), HB9.out.grown hgr HB9.out.size (fun g hg => by have := Option.some.inj hg; omega), Nat.lt_of_lt_of_le hs9 hgr.size⟩
                            have h := HO9.out.inc hFn hdn (fun i j => coC ks F (cHas acts L (k + 1)) i j) (fun i j hi hj => by
                              by_cases e : i = Fa ∧ j = d
                              · rw [if_pos e, e.1, e.2]
                                exact co_more HKN.out hin HH.out hc Fa d ⟨HFA.out, HPD.out⟩
                              · rw [if_neg e]
                                exact co_stay HH.out i j (.inr (fun h => e ⟨by rw [← h.1]; exact HFA.out, by have := h.1; rw [HFA.out] at this; have := HPD.out; have := h.2; omega⟩)))
                            simp only [hN0] at h
                            exact h.below (grown_drew (grownO_same _ none)))
                          clear HO9 HV9 HB9 HX9 HS9
                          go_wp2_with fail
                          go_region
                          clear t0 t1 r0' r1' r2' d1 hdl HD9
                          go_wp2_with fail
                          go_roundw
                          case rel => exact ⟨k + 1, n2 + 1, by omega, by go_num, by omega, HFIN.out.1, HFIN.out.2.1, HFIN.out.2.2.1, HFIN.out.2.2.2.1, HFIN.out.2.2.2.2⟩
                          case measure => simp [intOf]; omega
                        · have hdn' : ¬ (d : Int) < (n : Int) := by omega
                          have hHS := sF_stay (F := F) (n := n) HH.out (.inr (fun h => by have h2 := h.2; rw [HFA.out] at h2; have := h.1; have := h.2; have := HPD.out; omega))
                          go_wp2_with fail
                          go_roundw
                          case rel => exact ⟨k + 1, n2, by omega, by go_num, by omega, HOb.out.congr (fun i j hi hj => (co_stay HH.out i j (.inr (fun h => by have h2 := h.1; rw [HFA.out] at h2; have := h.1; have := h.2; have := HPD.out; omega))).symm), by rw [hHS]; exact HSb.out, HVb.out, HBb.out, hbs9⟩
                          case measure => simp [intOf]; omega
                      · have hFn' : ¬ (Fa : Int) < (n : Int) := by omega
                        have hHS := sF_stay (F := F) (n := n) HH.out (.inr (fun h => by have h2 := h.1; rw [HFA.out] at h2; have := h.1; have := h.2; have := HPD.out; omega))
                        go_wp2_with fail
                        go_roundw
                        case rel => exact ⟨k + 1, n2, by omega, by go_num, by omega, HOb.out.congr (fun i j hi hj => (co_stay HH.out i j (.inr (fun h => by have h2 := h.1; rw [HFA.out] at h2; have := h.1; have := h.2; have := HPD.out; omega))).symm), by rw [hHS]; exact HSb.out, HVb.out, HBb.out, hbs9⟩
                        case measure => simp [intOf]; omega
                    --@end
                  · obtain rfl : na = k := by omega
                    have HT := Lib.hid (HTB.out wr (.slice (some ⟨go, 0, none⟩) n n) ⟨go, rb, rfl, HO.out.congr fun i j _ _ => HCO.out i j⟩)
                    clear HO HS HV
                    go_wp2_with fail
                    refine bodyPost_ret (v := .tuple #[.slice (some ⟨go, 0, none⟩) n n, .int .i64 0]) (by simp [results, Tryz.results11, go_sem]) rfl ?_
                    exact ⟨_, rfl, HT.out, HB.out⟩
                --@end
      · obtain rfl : E = 1 := by have h := HE.out; rw [if_neg (by simp), if_pos (by omega)] at h; exact h
        go_wp2_with fail
        with_reducible refine (within_no _ _ _ _ (by omega)).mono ?_
        rintro e w2 ⟨rfl, rfl⟩
        go_wp2_with fail
        refine bodyPost_ret (v := .tuple #[.slice none 0 0, .int .i64 1]) (by simp [results, Tryz.results11, go_sem]) rfl ?_
        exact ⟨_, rfl, FAIL.out (by decide) _, HB1.out⟩
    · obtain rfl : E = 1 := by have h := HE.out; rw [if_neg (by simp), if_pos (by omega)] at h; exact h
      go_wp2_with fail
      with_reducible refine (within_no _ _ _ _ (by omega)).mono ?_
      rintro e w2 ⟨rfl, rfl⟩
      go_wp2_with fail
      refine bodyPost_ret (v := .tuple #[.slice none 0 0, .int .i64 1]) (by simp [results, Tryz.results11, go_sem]) rfl ?_
      exact ⟨_, rfl, FAIL.out (by decide) _, HB1.out⟩
  · have e1 : (AF == 0) = false := by simpa using h1
    have e2 : (AF != 0) = true := by simpa using h1
    obtain rfl : E = AF := HE.out.trans (if_pos h1)
    go_wp2_with fail
    refine bodyPost_ret (v := .tuple #[.slice none 0 0, .int .i64 E]) (by simp [results, Tryz.results11, go_sem]) rfl ?_
    exact ⟨_, rfl, FAIL.out h1 _, HB1.out⟩
end Go.Proofs.YtgdagknjnidmiaaGreatDoor
