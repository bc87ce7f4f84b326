/- handref1.CohortsOf (printed by gen_cohof.py). -/
import Derived.Test.YtgdagknjnidmiaaGreatDoorCohorts
import Derived.Test.YtgdagknjnidmiaaGreatDoorDidO
import Derived.StillTailTactics
set_option linter.unusedVariables false
namespace Go.Proofs.YtgdagknjnidmiaaGreatDoor
open Go.RowKit Go.Maps

theorem zero_mapC {w : World} : (zeroValue 83).run Tryz.prog w = .ok (.map none) w := by kernel_rfl
theorem eql_map_none (w : World) : (binOp .eql 83 (.map none) (.map none)).run Tryz.prog w = .ok (.bool true) w := by kernel_rfl
theorem eql_map_some (b : Nat) (w : World) : (binOp .eql 83 (.map (some b)) (.map none)).run Tryz.prog w = .ok (.bool false) w := by kernel_rfl
theorem guard_mapC (x y : Operand) (a b : Option Nat) (w : World) : (eqGuard .eql 83 x y (.map a) (.map b)).run Tryz.prog w = .ok () w := by kernel_rfl
theorem cHas_fresh (acts : List Ac) (L k : Nat) (hk : k ≤ acts.length) (s : ByteArray) (h : s ∉ ckK acts k) (q : Nat) : cHas acts L k s q = false := by
  cases hc : cHas acts L k s q
  · rfl
  · obtain ⟨a, ha, e, -⟩ := (cHas_iff _ _ _ _ _).1 hc
    exact absurd ((ckK_mem acts k hk s).2 ⟨a, ha, e⟩) h
theorem few_ofC {α : Type} [DecidableEq α] : ∀ (ks m : List α), ks.Nodup → (∀ s ∈ ks, s ∈ m) → ks.length ≤ m.length
  | [], m, _, _ => Nat.zero_le _
  | x :: ks, m, h, hs => by
    have hx := hs x (by simp)
    rw [List.nodup_cons] at h
    have h2 := few_ofC ks (m.erase x) h.2 (fun s hs' => (List.mem_erase_of_ne (fun (e : s = x) => h.1 (by rw [← e]; exact hs'))).2 (hs s (by simp [hs'])))
    rw [List.length_erase_of_mem hx] at h2
    have : 0 < m.length := List.length_pos_of_mem hx
    rw [List.length_cons]
    omega
/-- no key twice, all in a short list: few keys -/
theorem few_keysC {ks m : List ByteArray} (h : ks.Nodup) (hs : ∀ s ∈ ks, s ∈ m) : ks.length ≤ m.length := by
  have := few_ofC (ks.map fun s => s.data.toList) (m.map fun s => s.data.toList) (by
    rw [List.Nodup, List.pairwise_map]
    exact h.imp fun {a b} h e => h (sameS_eq.1 (decide_eq_true e))) (fun s hs' => by
    obtain ⟨x, hx, rfl⟩ := List.mem_map.1 hs'
    exact List.mem_map.2 ⟨x, hs x hx, rfl⟩)
  simpa using this
/-- the least period is when one began -/
theorem min_first {acts : List Ac} {L : Nat} {ks : List ByteArray} {pk : ByteArray → List Int} (hper : PerOk ks pk (cHas acts L acts.length)) (hks : ks = ckK acts acts.length) {s : ByteArray} (hs : s ∈ ks) (hb : cFst acts L acts.length s ≤ 4321439) {dn : List Int} (h : dn.Perm (pk s)) : minL dn = (cFst acts L acts.length s : Int) := by
  subst hks
  obtain ⟨⟨a, ha, e1, e2⟩, hle⟩ := cFst_min acts L acts.length (Nat.le_refl _) s hs
  have h1 := minL_le dn
  have hin : ((cFst acts L acts.length s : Nat) : Int) ∈ dn := by
    rw [h.mem_iff, (hper s hs).2]
    exact ⟨_, rfl, (cHas_iff _ _ _ _ _).2 ⟨a, ha, e1, e2⟩⟩
  have h2 := h1.2 _ hin
  rcases minL_mem dn with h3 | h3
  · omega
  · rw [h.mem_iff, (hper s hs).2] at h3
    obtain ⟨q, e3, e4⟩ := h3
    obtain ⟨a', ha', e5, e6⟩ := (cHas_iff _ _ _ _ _).1 e4
    have := hle a' ha' e5
    omega

set_option maxRecDepth 100000 in
set_option maxHeartbeats 16000000 in
theorem CohortsOf_any (ac : Option Addr) (acts : List Ac) (na ca : Nat) (len many : Int) (w : World) (hm : acts.length = na) (hm1 : na ≤ 1000) (hJ : RAt w ac 3 Ac.cells acts) (hoka : ∀ x ∈ acts, x.ok) :
    Calls Tryz.prog 12 #[.slice ac na ca, .int .i64 len, .int .i64 many] w fun e w' => ∃ v, e = .returned (.tuple #[v, .int .i64 (chE acts len many)]) ∧ ChIs w' v acts len many ∧ Below w.heap.size w w' := by
  obtain ⟨i0, hi, hz0, hz1, hz2⟩ := info_parts infoSlC
  obtain ⟨j0, hj, hy0, hy1, hy2⟩ := info_parts infoInC
  have hmm := @run_makeMap Tryz.prog
  have heq0 := eql_map_none
  have heq1 := eql_map_some
  have hgm := guard_mapC
  have HJ := Lib.hid hJ
  have HM := Lib.hid hm
  have HOA := Lib.hid hoka
  have HE : Hid (chE acts len many = if acsF acts ≠ 0 then acsF acts else if len < 1 ∨ 4321440 < len ∨ many < 1 ∨ 60 < many then 1 else 0) := Lib.hid rfl
  obtain ⟨CHI, hCHI⟩ : ∃ P : World → Value → Prop, ∀ w v, P w v = ChIs w v acts len many := ⟨_, fun _ _ => rfl⟩
  have HCI : Hid (∀ w v, CHI w v ↔ if chE acts len many = 0 then TabIs w v many.toNat (coA acts len.toNat) else v = .slice none 0 0) := Lib.hid (fun w v => by rw [hCHI]; exact Iff.rfl)
  obtain ⟨E, hE⟩ : ∃ z, chE acts len many = z := ⟨_, rfl⟩
  simp only [← hCHI]
  rw [hE] at HE HCI
  rw [hE]
  obtain ⟨AF, hAF⟩ : ∃ z, acsF acts = z := ⟨_, rfl⟩
  have HAF := Lib.hid hAF
  have CA := Lib.hid (ActsFault_any ac acts na ca w hm hm1 hJ hoka)
  rw [hAF] at HE CA
  clear hm hJ hoka hAF hE hCHI
  have FAIL : Hid (E ≠ 0 → ∀ w, CHI w (.slice none 0 0)) := Lib.hid (fun h w => (HCI.out w _).2 (by rw [if_neg h]))
  go_enter Tryz.func12, Tryz.ntmps12
  go_wp2_with fail
  with_reducible refine CA.out.mono ?_
  rintro e w1 ⟨rfl, b1⟩
  have HB1 := Lib.hid b1
  clear CA b1
  by_cases h1 : AF = 0
  · subst h1
    by_cases hbad : len < 1 ∨ 4321440 < len ∨ many < 1 ∨ 60 < many
    · obtain rfl : E = 1 := by have h := HE.out; rw [if_neg (by simp), if_pos hbad] at h; exact h
      by_cases q1 : len < 1
      · go_wp2_with fail
        refine bodyPost_ret (v := .tuple #[.slice none 0 0, .int .i64 1]) (by simp [results, Tryz.results12, go_sem]) rfl ?_
        exact ⟨_, rfl, FAIL.out (by decide) _, HB1.out⟩
      · by_cases q2 : 4321440 < len
        · go_wp2_with fail
          refine bodyPost_ret (v := .tuple #[.slice none 0 0, .int .i64 1]) (by simp [results, Tryz.results12, go_sem]) rfl ?_
          exact ⟨_, rfl, FAIL.out (by decide) _, HB1.out⟩
        · by_cases q3 : many < 1
          · go_wp2_with fail
            refine bodyPost_ret (v := .tuple #[.slice none 0 0, .int .i64 1]) (by simp [results, Tryz.results12, go_sem]) rfl ?_
            exact ⟨_, rfl, FAIL.out (by decide) _, HB1.out⟩
          · have q4 : 60 < many := by omega
            go_wp2_with fail
            refine bodyPost_ret (v := .tuple #[.slice none 0 0, .int .i64 1]) (by simp [results, Tryz.results12, go_sem]) rfl ?_
            exact ⟨_, rfl, FAIL.out (by decide) _, HB1.out⟩
    · obtain rfl : E = 0 := by have h := HE.out; rw [if_neg (by simp), if_neg hbad] at h; exact h
      obtain ⟨L, hL⟩ : ∃ L : Nat, len = (L : Int) := ⟨len.toNat, by omega⟩
      obtain ⟨n, hn⟩ : ∃ n : Nat, many = (n : Int) := ⟨many.toNat, by omega⟩
      subst hL hn
      have HTB : Hid (∀ w v, TabIs w v n (coA acts L) → CHI w v) := Lib.hid (fun w v h => (HCI.out w v).2 (by rw [if_pos rfl, Int.toNat_natCast, Int.toNat_natCast]; exact h))
      obtain ⟨hl1, hl2, hn1, hn2⟩ : ¬ (L : Int) < 1 ∧ ¬ 4321440 < (L : Int) ∧ ¬ (n : Int) < 1 ∧ ¬ 60 < (n : Int) := by omega
      have hL0 : (L : Int) ≠ 0 := by omega
      have hLe : ((L : Int) == 0) = false := by simpa using hL0
      have hLn : ¬ L = 0 := by omega
      clear HE FAIL HCI hbad
      have HGD := Lib.hid (fun a ha => acfE_zero (acsF_good HAF.out a ha))
      have HV0 : Hid (DidO (w1.alloc (.map #[] 0)) w1.heap.size 0 0 (ckK acts 0) (fun _ => 0) (fun _ => [])) := Lib.hid (DidO.made w1 0)
      have HB2 := Lib.hid (HB1.out.alloc HB1.out.size (.map #[] 0))
      obtain ⟨b, hb⟩ : ∃ z, w1.heap.size = z := ⟨_, rfl⟩
      rw [hb] at HV0
      have hwb : w.heap.size ≤ b := by rw [← hb]; exact HB1.out.size
      have HP0 : Hid (PerOk (ckK acts 0) (fun _ => []) (cHas acts L 0)) := Lib.hid (fun s hs => by cases hs)
      clear HB1
      go_upto_region 7 with (fail)
      generalize w1.alloc (.map #[] 0) = w2 at *
      try rw [hb]
      clear hb
      go_wp2_with fail
      go_loopw [11, 41] (fun _ i wr => ∃ (k n1 : Nat) (blk : ByteArray → Nat) (pk : ByteArray → List Int), k ≤ na ∧ i = .int .i64 k ∧ n1 ≤ k ∧ DidO wr b n1 k (ckK acts k) blk pk ∧ PerOk (ckK acts k) pk (cHas acts L k) ∧ Below w.heap.size w wr) (fun _ i _ => na - (intOf i).toNat)
      case atStart => exact ⟨0, 0, _, _, Nat.zero_le _, rfl, Nat.le_refl _, HV0.out, HP0.out, HB2.out⟩
      case round =>
        obtain ⟨k, n1, blk, pk, hk, rfl, hn1', hV, hP, hB⟩ := hrel
        have HV := Lib.hid hV
        have HP := Lib.hid hP
        have HB := Lib.hid hB
        clear HV0 HP0 HB2 hV hP hB
        by_cases hlt : k < na
        · --@r1
          have hkl : k < acts.length := by have := HM.out; omega
          obtain ⟨p, off, hap, hp, c0, c1, c2⟩ := rat3 (HJ.out.below HB.out) hkl (v0 := .string acts[k].sent) (v1 := .int .i64 acts[k].kind) (v2 := .int .i64 acts[k].at_) rfl
          subst hap
          obtain ⟨o1, o2, o3, o4, o5⟩ := HOA.out acts[k] (List.getElem_mem hkl)
          obtain ⟨g1, g2, g3, g4⟩ := HGD.out acts[k] (List.getElem_mem hkl)
          obtain ⟨hq, hpb⟩ := per_div L acts[k] g3 g4 (by omega)
          have HH := Lib.hid (fun t q => cHas_succ acts L k hkl t q)
          have HCK := Lib.hid (ckK_succ acts k hkl)
          have HFR := Lib.hid (fun h q => cHas_fresh acts L k (Nat.le_of_lt hkl) (acts[k]'hkl).sent h q)
          obtain ⟨P, hP⟩ : ∃ z, perN L acts[k] = z := ⟨_, rfl⟩
          rw [hP] at hq hpb
          simp only [hP] at HH
          clear hP
          generalize acts[k] = x at *
          obtain ⟨aid, ak, aat⟩ := x
          simp only at c0 c1 c2 o1 g3 g4 hq HH HCK HFR
          have HBx := Lib.hid (HB.out.alloc HB.out.size (.cells #[.string aid, .int .i64 ak, .int .i64 aat] 65))
          have HVx := Lib.hid (HV.out.same (World.grownBy_alloc wr (.cells #[.string aid, .int .i64 ak, .int .i64 aat] 65) none))
          have HX := Lib.hid (XB.new wr [.string aid, .int .i64 ak, .int .i64 aat] 65)
          simp only [List.toArray] at HX
          have hqb : b < wr.heap.size := HV.out.map.lt
          go_upto_region 10 with (fail)
          generalize wr.alloc (.cells #[.string aid, .int .i64 ak, .int .i64 aat] 65) = wa at *
          generalize wr.heap.size = q at *
          clear c0 c1 c2 HV HB
          have x0 := HX.out.2 0 _ rfl
          have x2 := HX.out.2 2 _ rfl
          have hxl := HX.out.1
          have hsm : aid.size ≤ maxLen := by unfold maxLen; omega
          have hnm : n1 < maxLen := by unfold maxLen; omega
          have hwp : IntKind.i64.wrap (P : Int) = (P : Int) := by rw [IntKind.wrap_i64]; omega
          have hk0 : -9223372036854775808 ≤ (P : Int) := by omega
          have hk1 : (P : Int) ≤ 9223372036854775807 := by omega
          have hlk := HVx.out.map.look Tryz.underlying94 zero_mapC aid hsm
          by_cases hb : hasS (ckK acts k) aid = true
          · --@y1
            rw [show mpF (ckK acts k) blk aid = .map (some (blk aid)) from if_pos hb] at hlk
            have hmem := hasS_mem.1 hb
            have hak : ckK acts (k + 1) = ckK acts k := by rw [HCK.out]; exact if_pos hb
            obtain ⟨n2, hn2, hvi⟩ := HVx.out.box aid hmem
            have hlkd : (Instr.lookup 94 (.map (some b)) (.string aid) false).run Tryz.prog (wa).drew = .ok (.map (some (blk aid))) (wa).drew := by
              have h := (HVx.out.map.drewN 1).look Tryz.underlying94 zero_mapC aid hsm
              rw [show mpF (ckK acts k) blk aid = .map (some (blk aid)) from if_pos (hasS_mem.2 hmem)] at h
              exact h
            have hn2m : n2 < maxLen := by unfold maxLen; omega
            have Gd : (wa).grownBy (wa).drew none := grown_drew (grownO_same wa none)
            have HVd := Lib.hid ((HVx.out.mono (Nat.le_succ k)).same Gd)
            have HBd := Lib.hid (HBx.out.grown Gd HBx.out.size (fun g hg => by cases hg))
            have HVI := Lib.hid (hvi.kept Gd (by simp))
            have hlb := HVx.out.ne aid hmem
            have HPS := Lib.hid (HP.out.step HH.out)
            clear hvi Gd
            go_wp2_with fail
            go_still_tail 8, (by kernel_rfl)
            change wpList _ _ _ _ _ (wa).drew
            generalize (wa).drew = wq at *
            clear x0 x2 hxl hlkd
            go_wp2_with (first | (at_mapUpdate; refine wpList_update_vi _ rfl _ _ _ 83 4 rfl Tryz.underlying83 (.bool false) (blk aid) n2 (pk aid) _ rfl HVI.out hn2m (P : Int) (.bool true) rfl rfl hk0 hk1 ?_))
            intro w9 hv9 g9
            rw [putP] at hv9
            have HV9 := Lib.hid (HVd.out.upd hmem (by omega) hv9 g9)
            have HB9 := Lib.hid (HBd.out.grown g9 HBd.out.size (fun g hg => by have := Option.some.inj hg; omega))
            clear hv9 g9 HVd HBd HVI
            go_wp2_with fail
            go_roundw
            case rel => exact ⟨k + 1, n1, blk, _, by omega, by go_num, by omega, by rw [hak]; exact HV9.out, by rw [hak]; exact HPS.out, HB9.out⟩
            case measure => simp [intOf]; omega
            --@end
          · --@y2
            have hb' : hasS (ckK acts k) aid = false := by simpa using hb
            rw [show mpF (ckK acts k) blk aid = .map none from if_neg hb] at hlk
            have hns : aid ∉ ckK acts k := fun e => hb (hasS_mem.2 e)
            have HVa := Lib.hid (HVx.out.map.alloc (.map #[] 0))
            have HXa := Lib.hid (HX.out.alloc (.map #[] 0))
            have HBa := Lib.hid (HBx.out.alloc HBx.out.size (.map #[] 0))
            obtain ⟨qm, hqm⟩ : ∃ z, wa.heap.size = z := ⟨_, rfl⟩
            have HNEW := Lib.hid (fun w2 hv k => HVx.out.new (w2 := w2) hb' hqm hv k)
            go_wp2_with (first | (at_mapUpdate; refine wpList_update_vm _ rfl _ _ _ 94 83 rfl Tryz.underlying94 (.map none) b n1 _ _ rfl HVa.out hnm aid (.map (some qm)) rfl (by simp [Act.eval]) hsm ?_))
            intro w3 hv3 g3'
            have HV3 := Lib.hid (HNEW.out w3 hv3 g3')
            have HX3 := Lib.hid (HXa.out.grown g3' (fun e => by have := Option.some.inj e; omega))
            have HB3 := Lib.hid (HBa.out.grown g3' HBa.out.size (fun g hg => by have := Option.some.inj hg; omega))
            clear hv3 g3' HNEW HVa HXa HBa HVx HX HBx x0 x2 hxl hlk
            have HP3 := Lib.hid (HP.out.new (s := aid) (HFR.out hns))
            have hmem : aid ∈ addK (ckK acts k) aid := addK_mem.2 (.inr rfl)
            have x0 := HX3.out.2 0 _ rfl
            have x2 := HX3.out.2 2 _ rfl
            have hxl := HX3.out.1
            obtain ⟨blk2, hblk2⟩ : ∃ z : ByteArray → Nat, (fun x => if sameS aid x = true then qm else blk x) = z := ⟨_, rfl⟩
            obtain ⟨pk2, hpk2⟩ : ∃ z : ByteArray → List Int, (fun x => if sameS aid x = true then [] else pk x) = z := ⟨_, rfl⟩
            rw [hblk2, hpk2] at HV3
            rw [hpk2] at HP3
            clear hblk2 hpk2
            have hwb3 : w.heap.size ≤ b := hwb
            obtain ⟨n2, hn2, hvi⟩ := HV3.out.box aid hmem
            have hlkd : (Instr.lookup 94 (.map (some b)) (.string aid) false).run Tryz.prog (w3).drew = .ok (.map (some (blk2 aid))) (w3).drew := by
              have h := (HV3.out.map.drewN 1).look Tryz.underlying94 zero_mapC aid hsm
              rw [show mpF (addK (ckK acts k) aid) blk2 aid = .map (some (blk2 aid)) from if_pos (hasS_mem.2 hmem)] at h
              exact h
            have hn2m : n2 < maxLen := by unfold maxLen; omega
            have Gd : (w3).grownBy (w3).drew none := grown_drew (grownO_same w3 none)
            have HVd := Lib.hid ((HV3.out.mono (Nat.le_succ k)).same Gd)
            have HBd := Lib.hid (HB3.out.grown Gd HB3.out.size (fun g hg => by cases hg))
            have HVI := Lib.hid (hvi.kept Gd (by simp))
            have hlb := HV3.out.ne aid hmem
            have HPS := Lib.hid (HP3.out.step HH.out)
            clear hvi Gd
            go_wp2_with fail
            go_still_tail 8, (by kernel_rfl)
            change wpList _ _ _ _ _ (w3).drew
            generalize (w3).drew = wq at *
            clear x0 x2 hxl hlkd
            go_wp2_with (first | (at_mapUpdate; refine wpList_update_vi _ rfl _ _ _ 83 4 rfl Tryz.underlying83 (.bool false) (blk2 aid) n2 (pk2 aid) _ rfl HVI.out hn2m (P : Int) (.bool true) rfl rfl hk0 hk1 ?_))
            intro w9 hv9 g9
            rw [putP] at hv9
            have HV9 := Lib.hid (HVd.out.upd hmem (by omega) hv9 g9)
            have HB9 := Lib.hid (HBd.out.grown g9 HBd.out.size (fun g hg => by have := Option.some.inj hg; omega))
            clear hv9 g9 HVd HBd HVI
            go_wp2_with fail
            go_roundw
            case rel => exact ⟨k + 1, n1 + 1, blk2, _, by omega, by go_num, by omega, by rw [HCK.out]; exact HV9.out, by rw [HCK.out]; exact HPS.out, HB9.out⟩
            case measure => simp [intOf]; omega
            --@end
          --@end
        · --@r2
          obtain rfl : na = k := by omega
          have HCO : Hid (∀ i j, coC (ckK acts na) (cFst acts L na) (cHas acts L na) i j = coA acts L i j) := Lib.hid (fun i j => by unfold coA; rw [HM.out])
          have HMF : Hid (∀ s, s ∈ ckK acts na → ∀ dn : List Int, dn.Perm (pk s) → minL dn = (cFst acts L na s : Int)) := Lib.hid (fun s hs dn hd => by
            have hb := cFst_bd acts L 4321439 (fun a ha => (per_div L a (HGD.out a ha).2.2.1 (HGD.out a ha).2.2.2 (by omega)).2) acts.length s (Nat.le_refl _)
            have hp := HP.out
            have hs' := hs
            rw [← HM.out] at hp hs' ⊢
            exact min_first hp rfl hs' hb hd)
          have HFB : Hid (∀ s, cFst acts L na s ≤ 4321439) := Lib.hid (fun s => cFst_bd acts L 4321439 (fun a ha => (per_div L a (HGD.out a ha).2.2.1 (HGD.out a ha).2.2.2 (by omega)).2) na s (by rw [HM.out]; exact Nat.le_refl _))
          have HPK : Hid (∀ s, s ∈ ckK acts na → (pk s).Nodup ∧ ∀ j : Nat, decide ((j : Int) ∈ pk s) = cHas acts L na s j) := Lib.hid (fun s hs => ⟨(HP.out s hs).1, fun j => by
            rw [Bool.eq_iff_iff, decide_eq_true_eq, (HP.out s hs).2]
            exact ⟨fun ⟨q, e, h⟩ => by rw [Int.ofNat.inj e]; exact h, fun h => ⟨j, rfl, h⟩⟩⟩)
          have HNE := Lib.hid HV.out.ne
          have HINJ := Lib.hid HV.out.inj
          have HKN := Lib.hid (ckK_nodup acts na)
          have HKL := Lib.hid (ckK_len acts na)
          generalize ckK acts na = ks at *
          generalize cFst acts L na = F at *
          generalize cHas acts L na = H at *
          clear HP HGD HAF HJ HOA
          obtain ⟨go, hgo⟩ : ∃ z, wr.heap.size = z := ⟨_, rfl⟩
          have hbg : b < go := by rw [← hgo]; exact HV.out.map.lt
          have HBG : Hid (∀ s, s ∈ ks → blk s < go) := Lib.hid (fun s hs => by rw [← hgo]; exact HV.out.lt hs)
          have hwg : w.heap.size ≤ go := by rw [← hgo]; exact HB.out.size
          have HVB := Lib.hid (fun w' (k : wr.grownBy w' none) => (⟨HV.out.same k, HB.out.grown k HB.out.size (fun g hg => by cases hg)⟩ : DidO w' b n1 na ks blk pk ∧ Below w.heap.size w w'))
          clear HV HB
          go_wp2_with (first | (refine wpList_make_row _ rfl _ _ 38 rfl 22 i0 (.slice none 0 0) Tryz.underlying38 hi hz0 hz1 rfl n (by go_simp) (by go_simp) (by rw [hz2]; omega) (by unfold maxLen; omega) ?_) | fail)
          intro wt hrt hgt hst
          obtain ⟨hV2, hB2⟩ := HVB.out wt hgt
          try rw [hgo] at hrt
          try rw [hgo] at hst
          try rw [hgo]
          have HO0 := Lib.hid (OutR.start hrt (fun _ => 0) (coC ks F H))
          have HV2 := Lib.hid hV2
          have HB2 := Lib.hid hB2
          clear hV2 hB2 hrt hgt HVB hgo
          go_wp2_with fail
          go_loopw [13, 67] (fun _ i wx => ∃ (k : Nat) (rb : Nat → Nat), k ≤ n ∧ i = .int .i64 k ∧ OutR wx go n k rb (coC ks F H) ∧ DidO wx b n1 na ks blk pk ∧ Below w.heap.size w wx) (fun _ i _ => n - (intOf i).toNat)
          case atStart => exact ⟨0, _, Nat.zero_le _, rfl, HO0.out, HV2.out, HB2.out⟩
          case round =>
            obtain ⟨k, rb, hk2, rfl, hO, hV, hB⟩ := hrel
            have HO := Lib.hid hO
            have HV := Lib.hid hV
            have HB := Lib.hid hB
            clear HO0 HV2 HB2 hO hV hB
            by_cases hlt2 : k < n
            · --@r3
              have hk0 : (0 : Int) ≤ (k : Int) := by omega
              have hk1 : (k : Int) < (n : Int) := by omega
              obtain ⟨q, hq⟩ : ∃ z, wr.heap.size = z := ⟨_, rfl⟩
              have hgq : go < q := by rw [← hq]; exact HO.out.tab.lt
              go_wp2_with (first | (refine wpList_make_row _ rfl _ _ 22 rfl 3 j0 (.int .i64 0) Tryz.underlying22 hj hy0 hy1 rfl n (by go_simp) (by go_simp) (by rw [hy2]; omega) (by unfold maxLen; omega) ?_) | fail)
              intro wt hrt hgt hst
              try rw [hq] at hrt
              try rw [hq] at hst
              try rw [hq]
              have HO1 := Lib.hid ((HO.out.congr (f' := fRow ks [] F H k) (fun i j hi hj => by unfold fRow; rw [if_neg (by omega)])).more hlt2 hq hrt hgt (fun j => by unfold fRow; rw [if_pos rfl]; rfl))
              have HOt := Lib.hid (HO.out.below hgt)
              have t0 := HOt.out.tab.cell k hlt2
              have t1 := HOt.out.tab.free k hlt2
              have t2 := HOt.out.tab.lt
              rw [if_neg (Nat.lt_irrefl k)] at t0
              have G9 : wt.grownBy (wt.setCell ⟨go, k, none⟩ (.slice (some ⟨q, 0, none⟩) n n)) (some go) := grown_set (p := ⟨go, k, none⟩) (grownO_same wt _) (.inl rfl) _
              have HV9 := Lib.hid ((HV.out.same hgt).grown G9 (fun e => by have := Option.some.inj e; omega) (fun s hs e => by have := Option.some.inj e; have := HBG.out s hs; omega))
              have HB9 := Lib.hid ((HB.out.grown hgt HB.out.size (fun g hg => by cases hg)).grown G9 (HB.out.grown hgt HB.out.size (fun g hg => by cases hg)).size (fun g hg => by have := Option.some.inj hg; omega))
              obtain ⟨rb2, hrb2⟩ : ∃ z : Nat → Nat, (fun i => if i = k then q else rb i) = z := ⟨_, rfl⟩
              rw [hrb2] at HO1
              clear HO HV HB hrt hgt G9 HOt hq hrb2
              go_upto_region 19 with (fail)
              generalize (wt.setCell ⟨go, k, none⟩ (.slice (some ⟨q, 0, none⟩) n n)) = wu at *
              clear t0 t1 t2 hst
              obtain ⟨r, hr⟩ : ∃ z, wu.heap.size = z := ⟨_, rfl⟩
              have hgr9 : go < r := by rw [← hr]; exact HO1.out.tab.lt
              have HRR : Hid (∀ i, i < k + 1 → rb2 i < r) := Lib.hid (fun i hi => by rw [← hr]; exact (HO1.out.row i hi).lt)
              have HCS := Lib.hid (fun w' (hv : VR w' (.map none) b r n1 ks (mpF ks blk) [] 0) (k : wu.grownBy w' none) => True.intro)
              have HKP := Lib.hid (fun w' cnt (hv : VR w' (.map none) b r n1 ks (mpF ks blk) [] cnt) (g9 : wu.grownBy w' none) => (⟨hv, fun s hs => (HV9.out.box s hs).kept g9 (by simp), HO1.out.below g9, HB9.out.grown g9 HB9.out.size (fun g hg => by cases hg), by have := hwb; omega, hbg, hgr9, HBG.out, HRR.out⟩ : CSt w b n1 r na ks [] cnt blk pk go n (k + 1) rb2 (fRow ks [] F H k) w'))
              have HMP := Lib.hid HV9.out.map
              clear HCS HV9 HB9 HO1
              go_wp2_with (first | (at_range; refine wpList_range_vm wu rfl _ 94 83 rfl Tryz.underlying94 (.map none) b n1 ks (mpF ks blk) rfl HMP.out ?_; intro w0 cnt0 hr0 hg0 hs0))
              try rw [hr] at hr0
              try rw [hr] at hs0
              try rw [hr]
              have HC0 := Lib.hid (HKP.out w0 cnt0 hr0 hg0)
              clear HKP HMP hr0 hg0 hr
              go_frame
              go_loopw [15, 16] (fun _ _ wx => ∃ (dn : List ByteArray) (cnt : Nat), CSt w b n1 r na ks dn cnt blk pk go n (k + 1) rb2 (fRow ks dn F H k) wx) (fun _ _ wx => wx.rangeLeft b r)
              case atStart => exact ⟨[], cnt0, HC0.out⟩
              case round =>
                obtain ⟨dn, cnt, hC⟩ := hrel
                have hm0 := hC.vr.left_eq
                have HC := Lib.hid hC
                clear HC0 hC
                go_wp2_with (first | (at_next; refine wpList_next_vm wr rfl _ rfl (.map none) b r n1 cnt ks dn (mpF ks blk) rfl HC.out.vr HKN.out ?_ ?_))
                · --@d1
                  intro hpm
                  have HOz := Lib.hid (HC.out.out.congr (f' := coC ks F H) (fun i j hi hj => by
                    unfold fRow
                    by_cases e : i = k
                    · rw [if_pos e]; exact co_perm hpm F H i j
                    · rw [if_neg e]))
                  have HVz : Hid (DidO wr b n1 na ks blk pk) := Lib.hid ⟨HC.out.vr.vm, HC.out.box, HNE.out, HINJ.out⟩
                  have HBz := Lib.hid HC.out.bel
                  clear HC hm0 hpm
                  go_wp2_with fail
                  go_roundw
                  case rel => exact ⟨k + 1, rb2, by omega, by go_num, HOz.out, HVz.out, HBz.out⟩
                  case measure => simp [intOf]; omega
                  --@end
                · --@d2
                  intro s w1 cnt1 hs hnd1 hs9 hR1 hlt hg1 hs1 hen
                  rw [show mpF ks blk s = .map (some (blk s)) from if_pos (hasS_mem.2 hs)] at hen ⊢
                  have HC1 := Lib.hid (HC.out.next hR1 hg1)
                  obtain ⟨hpn, hpk⟩ := HPK.out s hs
                  have HPH := Lib.hid hpk
                  have HMS := Lib.hid (HMF.out s hs)
                  have hfb := HFB.out s
                  obtain ⟨n2, hn2, hvi⟩ := HC1.out.box s hs
                  have HVI := Lib.hid hvi
                  have HPN := Lib.hid hpn
                  obtain ⟨r2, hr2⟩ : ∃ z, w1.heap.size = z := ⟨_, rfl⟩
                  have hrr : r < r2 := by rw [← hr2]; exact HC1.out.vr.lt.2
                  clear HC hR1 hg1 hvi hpn hpk hs1
                  go_upto_region 23 with (fail)
                  go_wp2_with (first | (at_range; refine wpList_range_vi w1 rfl _ 83 4 rfl Tryz.underlying83 (.bool false) (blk s) n2 (pk s) _ rfl HVI.out ?_; intro w2 cnt2 hr3 hg2 hs2))
                  try rw [hr2] at hr3
                  try rw [hr2] at hs2
                  try rw [hr2]
                  have HI2 := Lib.hid hr3
                  have HC2 := Lib.hid (HC1.out.grown hg2 (fun g hg => by cases hg))
                  clear HC1 HVI hr3 hg2 hr2 hen
                  go_frame
                  go_loopw [16, 17] (fun v16 _ wx => ∃ (d2 : List Int) (cnt3 : Nat), v16 = .int .i64 (minL d2) ∧ VIR wx (.bool false) (blk s) r2 n2 (pk s) (fun p => .bool (decide (p ∈ pk s))) d2 cnt3 ∧ CSt w b n1 r na ks (dn ++ [s]) cnt1 blk pk go n (k + 1) rb2 (fRow ks dn F H k) wx) (fun _ _ wx => wx.rangeLeft (blk s) r2)
                  case atStart => exact ⟨[], cnt2, rfl, HI2.out, HC2.out⟩
                  case round =>
                    obtain ⟨d2, cnt3, rfl, hI, hC⟩ := hrel
                    have hm1 := hI.left_eq
                    have HI := Lib.hid hI
                    have HC := Lib.hid hC
                    clear HI2 HC2 hI hC
                    go_wp2_with (first | (at_next; refine wpList_next_vi wr rfl _ rfl (.bool false) (blk s) r2 n2 cnt3 (pk s) d2 _ rfl HI.out HPN.out ?_ ?_))
                    · --@e1
                      intro hpm2
                      rw [HMS.out d2 hpm2]
                      have HVI := Lib.hid HI.out.vi
                      obtain ⟨Fs, hFs⟩ : ∃ z, F s = z := ⟨_, rfl⟩
                      have HFS := Lib.hid hFs
                      rw [hFs] at hfb ⊢
                      clear HI hm1 hpm2 hFs
                      have HC5 := Lib.hid (HC.out.congr (f' := fMid ks dn s F H k 0) (fun i j hi hj => by
                        unfold fRow fMid
                        by_cases e : i = k
                        · rw [if_pos e, if_pos e, if_neg (Nat.not_lt_zero _)]
                        · rw [if_neg e, if_neg e]))
                      have hdl : dn.length ≤ na := by
                        have h := HC.out.vr.sub
                        have := few_keysC h.1 h.2
                        have h3 := HKL.out
                        rw [List.length_append] at this
                        omega
                      clear HC
                      go_wp2_with fail
                      go_loopw [18, 91] (fun _ i wx => ∃ (j : Nat), j ≤ n ∧ i = .int .i64 j ∧ VI wx (.bool false) (blk s) n2 (pk s) (fun p => .bool (decide (p ∈ pk s))) ∧ CSt w b n1 r na ks (dn ++ [s]) cnt1 blk pk go n (k + 1) rb2 (fMid ks dn s F H k j) wx) (fun _ i _ => n - (intOf i).toNat)
                      case atStart => exact ⟨0, Nat.zero_le _, rfl, HVI.out, HC5.out⟩
                      case round =>
                        obtain ⟨j, hj5, rfl, hvi, hC⟩ := hrel
                        have HVI := Lib.hid hvi
                        have HC := Lib.hid hC
                        clear HC5 hvi hC
                        by_cases hlt5 : j < n
                        · have hj0 : (0 : Int) ≤ (j : Int) := by omega
                          have hj1 : (j : Int) < (n : Int) := by omega
                          have hadd : IntKind.i64.wrap ((k : Int) + (j : Int)) = (k : Int) + (j : Int) := by rw [IntKind.wrap_i64]; omega
                          have hsn := co_snoc dn F H s k j
                          by_cases hFk : Fs = k
                          · have hFi : (Fs : Int) = (k : Int) := by omega
                            have hFb : ((Fs : Int) == (k : Int)) = true := by simpa using hFi
                            have hlk := HVI.out.look Tryz.underlying83 (zero_boolC) ((k : Int) + (j : Int)) (by omega) (by omega)
                            obtain ⟨hv, hhv⟩ : ∃ z, H s (k + j) = z := ⟨_, rfl⟩
                            have hde : decide ((k : Int) + (j : Int) ∈ pk s) = hv := by
                              have h := HPH.out (k + j)
                              rw [hhv, Int.natCast_add] at h
                              exact h
                            simp only [hde] at hlk
                            have HHV := Lib.hid hhv
                            clear hhv hde
                            cases hv with
                            | true =>
                              have hk2' : k < k + 1 := Nat.lt_succ_self k
                              have t0 := HC.out.out.tab.cell k hlt2
                              rw [if_pos hk2'] at t0
                              have t1 := HC.out.out.tab.lt
                              obtain ⟨N0, hN0⟩ : ∃ z, coC dn F H k j = z := ⟨_, rfl⟩
                              have hNb : N0 ≤ na := by rw [← hN0]; exact Nat.le_trans (co_le _ _ _ _ _) hdl
                              have r0' := (HC.out.out.row k hk2').cell j hlt5
                              simp only [mid_at, hN0] at r0'
                              have r1' := (HC.out.out.row k hk2').free j hlt5
                              have r2' := (HC.out.out.row k hk2').lt
                              have hw9 : IntKind.i64.wrap ((N0 : Int) + 1) = (N0 : Int) + 1 := by rw [IntKind.wrap_i64]; omega
                              have HC9 := Lib.hid (HC.out.inc hk2' hlt5 (fMid ks dn s F H k (j + 1)) (fun i j' hi hj' => by
                                rw [mid_step]
                                by_cases e : i = k ∧ j' = j
                                · rw [if_pos e, if_pos e, mid_at, hsn, if_pos ⟨HFS.out.trans hFk, HHV.out⟩]
                                · rw [if_neg e, if_neg e]))
                              rw [mid_at, hN0] at HC9
                              have hlo := HC.out.out.lo k hk2'
                              have HV9 := Lib.hid (HVI.out.kept (grown_set (p := ⟨rb2 k, j, none⟩) (grownO_same wr (some (rb2 k))) (.inl rfl) (.int .i64 ((N0 : Int) + 1))) (fun e => by have := Option.some.inj e; have := HBG.out s hs; omega))
                              clear HVI HC
                              go_wp2_with fail
                              go_roundw
                              case rel => exact ⟨j + 1, by omega, by go_num, HV9.out, HC9.out⟩
                              case measure => simp [intOf]; omega
                            | false =>
                              go_wp2_with fail
                              go_roundw
                              case rel => exact ⟨j + 1, by omega, by go_num, HVI.out, HC.out.congr (fun i j' hi hj' => by
                                rw [mid_step]
                                by_cases e : i = k ∧ j' = j
                                · rw [if_pos e, e.1, e.2, mid_at, hsn, if_neg (fun h => by rw [HHV.out] at h; exact absurd h.2 (by decide))]; rfl
                                · rw [if_neg e])⟩
                              case measure => simp [intOf]; omega
                          · have hFi : ¬ (Fs : Int) = (k : Int) := by omega
                            have hFb : ((Fs : Int) == (k : Int)) = false := by simpa using hFi
                            go_wp2_with fail
                            go_roundw
                            case rel => exact ⟨j + 1, by omega, by go_num, HVI.out, HC.out.congr (fun i j' hi hj' => by
                              rw [mid_step]
                              by_cases e : i = k ∧ j' = j
                              · rw [if_pos e, e.1, e.2, mid_at, hsn, if_neg (fun h => hFk (HFS.out.symm.trans h.1))]; rfl
                              · rw [if_neg e])⟩
                            case measure => simp [intOf]; omega
                        · obtain rfl : n = j := by omega
                          go_wp2_with fail
                          go_roundw
                          case rel => exact ⟨dn ++ [s], cnt1, HC.out.congr (fun i j hi hj => by
                            unfold fMid fRow
                            by_cases e : i = k
                            · rw [if_pos e, if_pos hj, if_pos e]
                            · rw [if_neg e, if_neg e])⟩
                          case measure => rw [HC.out.vr.left_eq, hm0]; exact hlt
                      --@end
                    · --@e2
                      intro p w4 cnt4 hp hnp hR4 hlt4 hg4 hs4 hen4
                      have HI4 := Lib.hid hR4
                      have HC4 := Lib.hid (HC.out.grown hg4 (fun g hg => by have := Option.some.inj hg; omega))
                      have hsn := minL_snoc d2 p
                      clear HI HC hR4 hg4
                      go_wp2_with fail
                      go_roundw
                      case rel => exact ⟨d2 ++ [p], cnt4, by rw [hsn]; congr 1; split <;> omega, HI4.out, HC4.out⟩
                      case measure => rw [HI4.out.left_eq, hm1]; exact hlt4
                      --@end
                  --@end
              --@end
            · --@r4
              obtain rfl : n = k := by omega
              have HT := Lib.hid (HTB.out wr (.slice (some ⟨go, 0, none⟩) n n) ⟨go, rb, rfl, HO.out.congr fun i j _ _ => HCO.out i j⟩)
              clear HO HV
              go_wp2_with fail
              refine bodyPost_ret (v := .tuple #[.slice (some ⟨go, 0, none⟩) n n, .int .i64 0]) (by simp [results, Tryz.results12, go_sem]) rfl ?_
              exact ⟨_, rfl, HT.out, HB.out⟩
              --@end
          --@end
  · have e1 : (AF == 0) = false := by simpa using h1
    have e2 : (AF != 0) = true := by simpa using h1
    obtain rfl : E = AF := HE.out.trans (if_pos h1)
    go_wp2_with fail
    refine bodyPost_ret (v := .tuple #[.slice none 0 0, .int .i64 E]) (by simp [results, Tryz.results12, go_sem]) rfl ?_
    exact ⟨_, rfl, FAIL.out h1 _, HB1.out⟩
end Go.Proofs.YtgdagknjnidmiaaGreatDoor
