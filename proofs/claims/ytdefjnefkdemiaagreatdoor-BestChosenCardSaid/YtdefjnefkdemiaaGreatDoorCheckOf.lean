/- What is wrong with offers: offer.CheckOffers, handref1.OffersFault (printed by gen_checkof.py). -/
import Derived.Test.YtdefjnefkdemiaaGreatDoorM4
import Derived.Test.YtdefjnefkdemiaaGreatDoorM1
import Derived.Deep.DeepCutAuto
set_option linter.unusedVariables false
namespace Go.Proofs.YtdefjnefkdemiaaGreatDoor
open Go.RowKit

theorem owithin_b (n lo hi : Int) (w : World) : Calls Tryz.prog 70 #[.int .i64 n, .int .i64 lo, .int .i64 hi] w fun e w' => e = .returned (.bool (wB n lo hi)) ∧ w = w' := by
  unfold wB
  by_cases h : n < lo ∨ hi < n
  · rw [show (decide (lo ≤ n) && decide (n ≤ hi)) = false by simp only [Bool.and_eq_false_iff, decide_eq_false_iff_not]; omega]
    exact owithin_no _ _ _ _ h
  · rw [show (decide (lo ≤ n) && decide (n ≤ hi)) = true by simp only [Bool.and_eq_true, decide_eq_true_eq]; omega]
    exact owithin_yes _ _ _ _ (by omega) (by omega)
theorem oisMoment_any (n : Int) (w : World) : Calls Tryz.prog 54 #[.int .i64 n] w fun e w' => e = .returned (.bool (wB n 0 4321439)) ∧ w = w' := by
  have C := Lib.hid (owithin_b n 0 4321439)
  generalize wB n 0 4321439 = b at *
  go_enter Tryz.func54, Tryz.ntmps54
  go_wp2_with fail
  with_reducible refine (C.out _).mono ?_
  rintro e w1 ⟨rfl, rfl⟩
  go_wp2_with fail
  go_ret
  exact ⟨rfl, rfl⟩
theorem rMoment_any (n : Int) (w : World) : Calls Tryz.prog 11 #[.int .i64 n] w fun e w' => e = .returned (.bool (wB n 0 4321439)) ∧ w = w' := by
  rw [show wB n 0 4321439 = momB n by unfold wB momB; rw [Bool.decide_and]]
  exact moment_any n w
set_option maxRecDepth 100000 in
set_option maxHeartbeats 4000000 in
theorem amounts_any (x : Of) (w : World) : Calls Tryz.prog 77 #[.agg x.cells.toArray] w fun e w' => e = .returned (.bool (amB x.kind x.a x.b)) ∧ Below w.heap.size w w' := by
  obtain ⟨key, kd, ia, ib, tv, tc, tags, le, mo, gr, al, od, fr, t2⟩ := x
  simp only
  rw [show (Of.cells ⟨key, kd, ia, ib, tv, tc, tags, le, mo, gr, al, od, fr, t2⟩).toArray = #[.string key, .int .i64 kd, .int .i64 ia, .int .i64 ib, .slice tv tags.length tc, .int .i64 le, .int .i64 mo, .string gr, .bool al, .int .i64 od, .int .i64 fr, .int .i64 t2] from rfl]
  have HE := Lib.hid (show amB kd ia ib = if kd = 1 then wB ia 1 100 && decide (ib = 0) else if kd = 3 then wB ia 1 20 && wB ib 1 20 else wB ia 1 1000000000000 && decide (ib = 0) from rfl)
  generalize amB kd ia ib = V at *
  have HB := Lib.hid ((Below.refl w.heap.size w).alloc (Nat.le_refl _) (.cells #[.string key, .int .i64 kd, .int .i64 ia, .int .i64 ib, .slice tv tags.length tc, .int .i64 le, .int .i64 mo, .string gr, .bool al, .int .i64 od, .int .i64 fr, .int .i64 t2] 37))
  have HX := Lib.hid (XB.new w [.string key, .int .i64 kd, .int .i64 ia, .int .i64 ib, .slice tv tags.length tc, .int .i64 le, .int .i64 mo, .string gr, .bool al, .int .i64 od, .int .i64 fr, .int .i64 t2] 37)
  simp only [List.toArray] at HX
  have W1 := Lib.hid (owithin_b ia 1 100)
  have W2 := Lib.hid (owithin_b ia 1 20)
  have W3 := Lib.hid (owithin_b ib 1 20)
  have W4 := Lib.hid (owithin_b ia 1 1000000000000)
  generalize wB ia 1 100 = b1 at *
  generalize wB ia 1 20 = b2 at *
  generalize wB ib 1 20 = b3 at *
  generalize wB ia 1 1000000000000 = b4 at *
  obtain ⟨z, hz⟩ : ∃ b, decide (ib = 0) = b := ⟨_, rfl⟩
  rw [hz] at HE
  have hz' : (ib == 0) = z := by rw [← hz]; exact Bool.beq_eq_decide_eq _ _
  clear hz
  generalize tags.length = tn at *
  go_enter Tryz.func77, Tryz.ntmps77
  go_upto_region 1 with (fail)
  generalize w.alloc (.cells #[.string key, .int .i64 kd, .int .i64 ia, .int .i64 ib, .slice tv tn tc, .int .i64 le, .int .i64 mo, .string gr, .bool al, .int .i64 od, .int .i64 fr, .int .i64 t2] 37) = w1 at *
  obtain ⟨x0, x1, x2, x3, x4, x5, x6, x7, x8, x9, x10, x11⟩ := HX.out.at12
  have hq := HX.out.1
  by_cases h1 : kd = 1
  · have e1 : (kd == 1) = true := by simp [h1]
    have HR := Lib.hid (HE.out.trans (if_pos h1))
    clear HE
    go_wp2_with fail
    with_reducible refine (W1.out _).mono ?_
    rintro e w2 ⟨rfl, rfl⟩
    cases b1 <;> (go_wp2_with fail; go_ret; exact ⟨ret_bool HR.out.symm, HB.out⟩)
  · have e1 : (kd == 1) = false := by simpa using h1
    by_cases h3 : kd = 3
    · have e3 : (kd == 3) = true := by simp [h3]
      have HR := Lib.hid ((HE.out.trans (if_neg h1)).trans (if_pos h3))
      clear HE
      go_wp2_with fail
      with_reducible refine (W2.out _).mono ?_
      rintro e w2 ⟨rfl, rfl⟩
      cases b2 with
      | false => go_wp2_with fail; go_ret; exact ⟨ret_bool HR.out.symm, HB.out⟩
      | true =>
        go_wp2_with fail
        with_reducible refine (W3.out _).mono ?_
        rintro e w2 ⟨rfl, rfl⟩
        go_wp2_with fail
        go_ret
        exact ⟨ret_bool HR.out.symm, HB.out⟩
    · have e3 : (kd == 3) = false := by simpa using h3
      have HR := Lib.hid ((HE.out.trans (if_neg h1)).trans (if_neg h3))
      clear HE
      go_wp2_with fail
      with_reducible refine (W4.out _).mono ?_
      rintro e w2 ⟨rfl, rfl⟩
      cases b4 <;> (go_wp2_with fail; go_ret; exact ⟨ret_bool HR.out.symm, HB.out⟩)

set_option maxRecDepth 100000 in
set_option maxHeartbeats 16000000 in
theorem CheckOffers_any (a : Option Addr) (l : List Of) (n c : Nat) (w : World) (hn : l.length = n) (hn1 : n ≤ 40) (hc : n ≤ c) (hc' : c ≤ maxLen) (hI : RAt w a 12 Of.cells l) (hTG : TagsAt Of.tv Of.tags w l) (hok : ∀ x ∈ l, x.ok) :
    Calls Tryz.prog 52 #[.slice a n c] w fun e w' => e = .returned (.int .i64 (ofE l)) ∧ Below w.heap.size w w' := by
  unfold maxLen at hc'
  have HN := Lib.hid hn
  have HI := Lib.hid hI
  have HTG := Lib.hid hTG
  have HOK := Lib.hid hok
  clear hn hI hok hTG
  go_enter Tryz.func52, Tryz.ntmps52
  go_wp2_with fail
  go_loopw [3, 4, 5, 11] (fun _ _ _ i wr => ∃ k : Nat, k ≤ n ∧ i = .int .i64 k ∧ Below w.heap.size w wr ∧ OfInv l k) (fun _ _ _ i _ => n - (intOf i).toNat)
  case atStart => exact ⟨0, Nat.zero_le _, rfl, Below.refl _ _, OfInv.zero l⟩
  case round =>
    obtain ⟨k, hk, rfl, hB, hV⟩ := hrel
    by_cases hlt : k < n
    · have hkl : k < l.length := by have := HN.out; omega
      obtain ⟨p, off, rfl, hp, c0, c1, c2, c3, c4, c5, c6, c7, c8, c9, c10, c11⟩ := (HI.out.below hB).at12 hkl (v0 := .string l[k].key) (v1 := .int .i64 l[k].kind) (v2 := .int .i64 l[k].a) (v3 := .int .i64 l[k].b) (v4 := .slice l[k].tv l[k].tags.length l[k].tc) (v5 := .int .i64 l[k].least) (v6 := .int .i64 l[k].most) (v7 := .string l[k].group) (v8 := .bool l[k].alone) (v9 := .int .i64 l[k].order) (v10 := .int .i64 l[k].from_) (v11 := .int .i64 l[k].to_) rfl
      obtain ⟨ok1, ok2, ok3, ok4, ok5, ok6, ok7, ok8, ok9, ok10, ok11, ok12, ok13, ok14, ok15, ok16, ok17, ok18, ok19, ok20⟩ := HOK.out l[k] (List.getElem_mem hkl)
      have HOS := Lib.hid ok9
      have HV := Lib.hid (hV.step hkl)
      have HE := Lib.hid (show ofstepE (l.take k) l[k] = ofSt (keyB l[k].key) (hasS ((l.take k).map Of.key) l[k].key) (decide (1 ≤ l[k].kind ∧ l[k].kind ≤ 4)) (ofB l[k]) (ofT l[k]) (decide (l[k].group.size = 0) || keyB l[k].group) (tgE l[k].tags) (decide (0 < l[k].tags.length) && decide (l[k].kind = 4)) from rfl)
      rw [← wB_kind, ofT_w] at HE
      have HTX := Lib.hid (HTG.out l[k] (List.getElem_mem hkl))
      have HAM := Lib.hid (ofB_am l[k])
      have HNO := Lib.hid (ofB_no l[k])
      have HYES := Lib.hid (ofB_yes l[k])
      have CA := Lib.hid (amounts_any l[k])
      generalize l[k] = x at *
      obtain ⟨key, kd, ia, ib, tv, tc, tags, le, mo, gr, al, od, fr, t2⟩ := x
      simp only at c0 c1 c2 c3 c4 c5 c6 c7 c8 c9 c10 c11 ok1 ok2 ok3 ok4 ok5 ok6 ok7 ok8 HOS ok10 ok11 ok12 ok13 ok14 ok15 ok16 ok17 ok18 ok19 ok20 HE HTX HAM HNO HYES CA
      simp only [show (Of.cells ⟨key, kd, ia, ib, tv, tc, tags, le, mo, gr, al, od, fr, t2⟩).toArray = #[.string key, .int .i64 kd, .int .i64 ia, .int .i64 ib, .slice tv tags.length tc, .int .i64 le, .int .i64 mo, .string gr, .bool al, .int .i64 od, .int .i64 fr, .int .i64 t2] from rfl] at CA
      have C1 := Lib.hid (fun w => isKey_any key w (by unfold maxLen; omega))
      have C2 := Lib.hid (fun w' (hb : Below w.heap.size w w') q hq => chkOfHas_any (some ⟨p, off, none⟩) (l.take k) k c q key w' (by simp; omega) (by omega) ((HI.out.below hb).take k) hq)
      have C3 := Lib.hid (fun w' (hb : Below w.heap.size w w') => checkTags_any tv tags tags.length tc w' rfl (by omega) (HTX.out.below hb) (fun s hs => by have := HOS.out s hs; omega))
      have C4 := Lib.hid (fun w => isKey_any gr w (by unfold maxLen; omega))
      have CT := Lib.hid (oisMoment_any fr)
      generalize hasS ((l.take k).map Of.key) key = b2 at *
      generalize keyB key = b1 at *
      generalize keyB gr = bg at *
      obtain ⟨ge, hge⟩ : ∃ b, gr.toList.isEmpty = b := ⟨_, rfl⟩
      rw [show decide (gr.size = 0) = ge by rw [← hge, ofIsEmpty]] at HE
      generalize tgE tags = te at *
      generalize ofB ⟨key, kd, ia, ib, tv, tc, tags, le, mo, gr, al, od, fr, t2⟩ = b3 at *
      clear ok9
      generalize tags.length = tn at *
      have X0 := Lib.hid (XB.new wr [.string key, .int .i64 kd, .int .i64 ia, .int .i64 ib, .slice tv tn tc, .int .i64 le, .int .i64 mo, .string gr, .bool al, .int .i64 od, .int .i64 fr, .int .i64 t2] 37)
      have HB0 := Lib.hid (hB.alloc hB.size (.cells #[.string key, .int .i64 kd, .int .i64 ia, .int .i64 ib, .slice tv tn tc, .int .i64 le, .int .i64 mo, .string gr, .bool al, .int .i64 od, .int .i64 fr, .int .i64 t2] 37))
      simp only [List.toArray] at X0
      have HX0 := X0
      clear hV hB X0
      have CK := Lib.hid (owithin_b kd 1 4)
      have CL := Lib.hid (owithin_b le 0 1000000000000)
      have CM := Lib.hid (owithin_b mo 0 1000000000000)
      have CO := Lib.hid (owithin_b od 0 1000)
      have CE := Lib.hid (owithin_b t2 (fr + 1) 4321440)
      generalize wB le 0 1000000000000 = bl at *
      generalize wB mo 0 1000000000000 = bm at *
      generalize wB od 0 1000 = bo at *
      generalize wB t2 (fr + 1) 4321440 = be at *
      generalize amB kd ia ib = ba at *
      generalize wB kd 1 4 = bk at *
      generalize wB fr 0 4321439 = bf at *
      go_upto_region 6 with (fail)
      generalize wr.alloc (.cells #[.string key, .int .i64 kd, .int .i64 ia, .int .i64 ib, .slice tv tn tc, .int .i64 le, .int .i64 mo, .string gr, .bool al, .int .i64 od, .int .i64 fr, .int .i64 t2] 37) = w2 at *
      generalize hqb : wr.heap.size = qb at *
      clear c0 c1 c2 c3 c4 c5 c6 c7 c8 c9 c10 c11 hp
      obtain ⟨x0, x1, x2, x3, x4, x5, x6, x7, x8, x9, x10, x11⟩ := HX0.out.at12
      have hq := HX0.out.1
      go_wp2_with fail
      with_reducible refine (C1.out _).mono ?_
      rintro e v9 ⟨rfl, rfl⟩
      cases b1 with
      | false =>
        go_wp2_with fail
        go_ret
        exact ⟨ret_int ((HV.out.1 (by rw [HE.out]; simp [ofSt])).trans (HE.out.trans (by simp [ofSt]))).symm, HB0.out⟩
      | true =>
        go_wp2_with fail
        with_reducible refine (C2.out _ HB0.out _ x0).mono ?_
        rintro e v1 ⟨rfl, d1⟩
        have HB1 := Lib.hid (HB0.out.trans (d1.mono HB0.out.size))
        have HX1 := Lib.hid (HX0.out.below d1)
        clear x0 x1 x2 x3 x4 x5 x6 x7 x8 x9 x10 x11 hq d1 HX0 HB0
        obtain ⟨x0, x1, x2, x3, x4, x5, x6, x7, x8, x9, x10, x11⟩ := HX1.out.at12
        have hq := HX1.out.1
        cases b2 with
        | true =>
          go_wp2_with fail
          go_ret
          exact ⟨ret_int ((HV.out.1 (by rw [HE.out]; simp [ofSt])).trans (HE.out.trans (by simp [ofSt]))).symm, HB1.out⟩
        | false =>
          go_wp2_with fail
          with_reducible refine (CK.out _).mono ?_
          rintro e v9 ⟨rfl, rfl⟩
          cases bk with
          | false =>
            go_wp2_with fail
            go_ret
            exact ⟨ret_int ((HV.out.1 (by rw [HE.out]; simp [ofSt])).trans (HE.out.trans (by simp [ofSt]))).symm, HB1.out⟩
          | true =>
            have h3 := HAM.out rfl
            clear HAM HNO HYES
            go_wp2_with fail
            with_reducible refine (CA.out _).mono ?_
            rintro e v2 ⟨rfl, d2⟩
            have HB2 := Lib.hid (HB1.out.trans (d2.mono HB1.out.size))
            have HX2 := Lib.hid (HX1.out.below d2)
            clear x0 x1 x2 x3 x4 x5 x6 x7 x8 x9 x10 x11 hq d2 HX1 HB1
            obtain ⟨x0, x1, x2, x3, x4, x5, x6, x7, x8, x9, x10, x11⟩ := HX2.out.at12
            have hq := HX2.out.1
            cases ba with
            | false =>
              go_wp2_with fail
              go_ret
              exact ⟨ret_int ((HV.out.1 (by rw [HE.out]; simp [ofSt, h3])).trans (HE.out.trans (by simp [ofSt, h3]))).symm, HB2.out⟩
            | true =>
              go_wp2_with fail
              with_reducible refine (CL.out _).mono ?_
              rintro e v9 ⟨rfl, rfl⟩
              cases bl with
              | false =>
                go_wp2_with fail
                go_ret
                exact ⟨ret_int ((HV.out.1 (by rw [HE.out]; simp [ofSt, h3])).trans (HE.out.trans (by simp [ofSt, h3]))).symm, HB2.out⟩
              | true =>
                go_wp2_with fail
                with_reducible refine (CM.out _).mono ?_
                rintro e v9 ⟨rfl, rfl⟩
                cases bm with
                | false =>
                  go_wp2_with fail
                  go_ret
                  exact ⟨ret_int ((HV.out.1 (by rw [HE.out]; simp [ofSt, h3])).trans (HE.out.trans (by simp [ofSt, h3]))).symm, HB2.out⟩
                | true =>
                  go_wp2_with fail
                  with_reducible refine (CO.out _).mono ?_
                  rintro e v9 ⟨rfl, rfl⟩
                  cases bo with
                  | false =>
                    go_wp2_with fail
                    go_ret
                    exact ⟨ret_int ((HV.out.1 (by rw [HE.out]; simp [ofSt, h3])).trans (HE.out.trans (by simp [ofSt, h3]))).symm, HB2.out⟩
                  | true =>
                    simp only [Bool.and_self] at h3
                    subst h3
                    go_wp2_with fail
                    with_reducible refine (CT.out _).mono ?_
                    rintro e v9 ⟨rfl, rfl⟩
                    cases bf with
                    | false =>
                      go_wp2_with fail
                      go_ret
                      exact ⟨ret_int ((HV.out.1 (by rw [HE.out]; simp [ofSt])).trans (HE.out.trans (by simp [ofSt]))).symm, HB2.out⟩
                    | true =>
                      go_wp2_with fail
                      with_reducible refine (CE.out _).mono ?_
                      rintro e v9 ⟨rfl, rfl⟩
                      cases be with
                      | false =>
                        go_wp2_with fail
                        go_ret
                        exact ⟨ret_int ((HV.out.1 (by rw [HE.out]; simp [ofSt])).trans (HE.out.trans (by simp [ofSt]))).symm, HB2.out⟩
                      | true =>
                        cases ge with
                        | true =>
                          go_wp2_with fail
                          with_reducible refine (C3.out _ HB2.out).mono ?_
                          rintro e v3 ⟨rfl, d8⟩
                          have HB3 := Lib.hid (HB2.out.trans (d8.mono HB2.out.size))
                          have HX3 := Lib.hid (HX2.out.below d8)
                          clear x0 x1 x2 x3 x4 x5 x6 x7 x8 x9 x10 x11 hq d8 HX2 HB2
                          obtain ⟨x0, x1, x2, x3, x4, x5, x6, x7, x8, x9, x10, x11⟩ := HX3.out.at12
                          have hq := HX3.out.1
                          by_cases hte : te = 0
                          · subst hte
                            by_cases ht0 : tn = 0
                            · subst ht0
                              have HI1 := Lib.hid (HV.out.2 (HE.out.trans (by simp [ofSt])))
                              clear HE HV
                              go_wp2_with fail
                              go_roundw
                              case rel => exact ⟨k + 1, by omega, by go_num, HB3.out, HI1.out⟩
                              case measure => simp [intOf]; omega
                            · have ht1 : 0 < tn := by omega
                              have ht2 : (0 : Int) < (tn : Int) := by omega
                              by_cases h4 : kd = 4
                              · have e4 : (kd == 4) = true := by simp [h4]
                                have HR := Lib.hid (show ofE l = 3 from (HV.out.1 (by rw [HE.out]; simp [ofSt, ht1, h4])).trans (HE.out.trans (by simp [ofSt, ht1, h4])))
                                clear HE HV
                                go_wp2_with fail
                                go_ret
                                exact ⟨ret_int HR.out.symm, HB3.out⟩
                              · have e4 : (kd == 4) = false := by simpa using h4
                                have HI1 := Lib.hid (HV.out.2 (HE.out.trans (by simp [ofSt, ht1, h4])))
                                clear HE HV
                                go_wp2_with fail
                                go_roundw
                                case rel => exact ⟨k + 1, by omega, by go_num, HB3.out, HI1.out⟩
                                case measure => simp [intOf]; omega
                          · have HTE := Lib.hid hte
                            have hce1 : (te == 0) = false := by simpa using hte
                            have hce2 : (te != 0) = true := by simpa using hte
                            have HR := Lib.hid (show ofE l = te from (HV.out.1 (by rw [HE.out]; simp [ofSt, hte])).trans (HE.out.trans (by simp [ofSt, hte])))
                            clear HE HV
                            go_wp2_with fail
                            go_ret
                            exact ⟨ret_int HR.out.symm, HB3.out⟩
                        | false =>
                          go_wp2_with fail
                          with_reducible refine (C4.out _).mono ?_
                          rintro e v9 ⟨rfl, rfl⟩
                          cases bg with
                          | false =>
                            go_wp2_with fail
                            go_ret
                            exact ⟨ret_int ((HV.out.1 (by rw [HE.out]; simp [ofSt])).trans (HE.out.trans (by simp [ofSt]))).symm, HB2.out⟩
                          | true =>
                            go_wp2_with fail
                            with_reducible refine (C3.out _ HB2.out).mono ?_
                            rintro e v3 ⟨rfl, d8⟩
                            have HB3 := Lib.hid (HB2.out.trans (d8.mono HB2.out.size))
                            have HX3 := Lib.hid (HX2.out.below d8)
                            clear x0 x1 x2 x3 x4 x5 x6 x7 x8 x9 x10 x11 hq d8 HX2 HB2
                            obtain ⟨x0, x1, x2, x3, x4, x5, x6, x7, x8, x9, x10, x11⟩ := HX3.out.at12
                            have hq := HX3.out.1
                            by_cases hte : te = 0
                            · subst hte
                              by_cases ht0 : tn = 0
                              · subst ht0
                                have HI1 := Lib.hid (HV.out.2 (HE.out.trans (by simp [ofSt])))
                                clear HE HV
                                go_wp2_with fail
                                go_roundw
                                case rel => exact ⟨k + 1, by omega, by go_num, HB3.out, HI1.out⟩
                                case measure => simp [intOf]; omega
                              · have ht1 : 0 < tn := by omega
                                have ht2 : (0 : Int) < (tn : Int) := by omega
                                by_cases h4 : kd = 4
                                · have e4 : (kd == 4) = true := by simp [h4]
                                  have HR := Lib.hid (show ofE l = 3 from (HV.out.1 (by rw [HE.out]; simp [ofSt, ht1, h4])).trans (HE.out.trans (by simp [ofSt, ht1, h4])))
                                  clear HE HV
                                  go_wp2_with fail
                                  go_ret
                                  exact ⟨ret_int HR.out.symm, HB3.out⟩
                                · have e4 : (kd == 4) = false := by simpa using h4
                                  have HI1 := Lib.hid (HV.out.2 (HE.out.trans (by simp [ofSt, ht1, h4])))
                                  clear HE HV
                                  go_wp2_with fail
                                  go_roundw
                                  case rel => exact ⟨k + 1, by omega, by go_num, HB3.out, HI1.out⟩
                                  case measure => simp [intOf]; omega
                            · have HTE := Lib.hid hte
                              have hce1 : (te == 0) = false := by simpa using hte
                              have hce2 : (te != 0) = true := by simpa using hte
                              have HR := Lib.hid (show ofE l = te from (HV.out.1 (by rw [HE.out]; simp [ofSt, hte])).trans (HE.out.trans (by simp [ofSt, hte])))
                              clear HE HV
                              go_wp2_with fail
                              go_ret
                              exact ⟨ret_int HR.out.symm, HB3.out⟩
    · have HD := Lib.hid (hV.done (by have := HN.out; omega))
      have HBB := Lib.hid hB
      clear hV hB
      go_wp2_with fail
      go_ret
      exact ⟨ret_int HD.out.symm, HBB.out⟩

set_option maxRecDepth 100000 in
set_option maxHeartbeats 16000000 in
theorem OffersFault_any (a : Option Addr) (l : List Of) (n c : Nat) (w : World) (hn : l.length = n) (hn1 : n ≤ 40) (hc : n ≤ c) (hc' : c ≤ maxLen) (hI : RAt w a 12 Of.cells l) (hTG : TagsAt Of.tv Of.tags w l) (hok : ∀ x ∈ l, x.ok) :
    Calls Tryz.prog 34 #[.slice a n c] w fun e w' => e = .returned (.int .i64 (ofE l)) ∧ Below w.heap.size w w' := by
  unfold maxLen at hc'
  have HN := Lib.hid hn
  have HI := Lib.hid hI
  have HTG := Lib.hid hTG
  have HOK := Lib.hid hok
  have hmm := @run_makeMap Tryz.prog
  clear hn hI hok hTG
  go_enter Tryz.func34, Tryz.ntmps34
  go_wp2_with fail
  go_loopw [3, 4, 5, 6, 7, 8, 14] (fun _ _ _ _ _ _ i wr => ∃ k : Nat, k ≤ n ∧ i = .int .i64 k ∧ Below w.heap.size w wr ∧ OfInv l k) (fun _ _ _ _ _ _ i _ => n - (intOf i).toNat)
  case atStart => exact ⟨0, Nat.zero_le _, rfl, Below.refl _ _, OfInv.zero l⟩
  case round =>
    obtain ⟨k, hk, rfl, hB, hV⟩ := hrel
    by_cases hlt : k < n
    · have hkl : k < l.length := by have := HN.out; omega
      obtain ⟨p, off, rfl, hp, c0, c1, c2, c3, c4, c5, c6, c7, c8, c9, c10, c11⟩ := (HI.out.below hB).at12 hkl (v0 := .string l[k].key) (v1 := .int .i64 l[k].kind) (v2 := .int .i64 l[k].a) (v3 := .int .i64 l[k].b) (v4 := .slice l[k].tv l[k].tags.length l[k].tc) (v5 := .int .i64 l[k].least) (v6 := .int .i64 l[k].most) (v7 := .string l[k].group) (v8 := .bool l[k].alone) (v9 := .int .i64 l[k].order) (v10 := .int .i64 l[k].from_) (v11 := .int .i64 l[k].to_) rfl
      obtain ⟨ok1, ok2, ok3, ok4, ok5, ok6, ok7, ok8, ok9, ok10, ok11, ok12, ok13, ok14, ok15, ok16, ok17, ok18, ok19, ok20⟩ := HOK.out l[k] (List.getElem_mem hkl)
      have HOS := Lib.hid ok9
      have HV := Lib.hid (hV.step hkl)
      have HE := Lib.hid (show ofstepE (l.take k) l[k] = ofSt (keyB l[k].key) (hasS ((l.take k).map Of.key) l[k].key) (decide (1 ≤ l[k].kind ∧ l[k].kind ≤ 4)) (ofB l[k]) (ofT l[k]) (decide (l[k].group.size = 0) || keyB l[k].group) (tgE l[k].tags) (decide (0 < l[k].tags.length) && decide (l[k].kind = 4)) from rfl)
      rw [← wB_kind, ofT_w] at HE
      have HTX := Lib.hid (HTG.out l[k] (List.getElem_mem hkl))
      have HAM := Lib.hid (ofB_am l[k])
      have HNO := Lib.hid (ofB_no l[k])
      have HYES := Lib.hid (ofB_yes l[k])
      have CA := Lib.hid (amounts_any l[k])
      generalize l[k] = x at *
      obtain ⟨key, kd, ia, ib, tv, tc, tags, le, mo, gr, al, od, fr, t2⟩ := x
      simp only at c0 c1 c2 c3 c4 c5 c6 c7 c8 c9 c10 c11 ok1 ok2 ok3 ok4 ok5 ok6 ok7 ok8 HOS ok10 ok11 ok12 ok13 ok14 ok15 ok16 ok17 ok18 ok19 ok20 HE HTX HAM HNO HYES CA
      simp only [show (Of.cells ⟨key, kd, ia, ib, tv, tc, tags, le, mo, gr, al, od, fr, t2⟩).toArray = #[.string key, .int .i64 kd, .int .i64 ia, .int .i64 ib, .slice tv tags.length tc, .int .i64 le, .int .i64 mo, .string gr, .bool al, .int .i64 od, .int .i64 fr, .int .i64 t2] from rfl] at CA
      have C1 := Lib.hid (fun w => keyOf_any key w (by unfold maxLen; omega))
      have C2 := Lib.hid (fun w' (hb : Below w.heap.size w w') q hq => ofFaultHas_any (some ⟨p, off, none⟩) (l.take k) k c q key w' (by simp; omega) (by omega) ((HI.out.below hb).take k) hq)
      have C3 := Lib.hid (fun w' (hb : Below w.heap.size w w') => tagsFault_any tv tags tags.length tc w' rfl (by omega) (HTX.out.below hb) (fun s hs => by have := HOS.out s hs; omega))
      have C4 := Lib.hid (fun w => keyOf_any gr w (by unfold maxLen; omega))
      have CT := Lib.hid (rMoment_any fr)
      generalize hasS ((l.take k).map Of.key) key = b2 at *
      generalize keyB key = b1 at *
      generalize keyB gr = bg at *
      obtain ⟨ge, hge⟩ : ∃ b, gr.toList.isEmpty = b := ⟨_, rfl⟩
      rw [show decide (gr.size = 0) = ge by rw [← hge, ofIsEmpty]] at HE
      generalize tgE tags = te at *
      generalize ofB ⟨key, kd, ia, ib, tv, tc, tags, le, mo, gr, al, od, fr, t2⟩ = b3 at *
      clear ok9
      generalize tags.length = tn at *
      have X0 := Lib.hid (XB.new wr [.string key, .int .i64 kd, .int .i64 ia, .int .i64 ib, .slice tv tn tc, .int .i64 le, .int .i64 mo, .string gr, .bool al, .int .i64 od, .int .i64 fr, .int .i64 t2] 37)
      have HB0 := Lib.hid (hB.alloc hB.size (.cells #[.string key, .int .i64 kd, .int .i64 ia, .int .i64 ib, .slice tv tn tc, .int .i64 le, .int .i64 mo, .string gr, .bool al, .int .i64 od, .int .i64 fr, .int .i64 t2] 37))
      simp only [List.toArray] at X0
      have HX0 := X0
      clear hV hB X0
      have HE3 := Lib.hid (show ∀ k : Int, kindM k = imV [(1, 100), (2, 1000000000000), (4, 1000000000000), (3, 20)] k from fun k => by
        unfold kindM imV
        simp only [List.foldl]
        by_cases h1 : k = 1
        · subst h1; decide
        · by_cases h2 : k = 2
          · subst h2; decide
          · by_cases h3 : k = 3
            · subst h3; decide
            · by_cases h4 : k = 4
              · subst h4; decide
              · rw [if_neg h1, if_neg h2, if_neg h3, if_neg h4, if_neg (Ne.symm h3), if_neg (Ne.symm h4), if_neg (Ne.symm h2), if_neg (Ne.symm h1)])
      have HM0 := Lib.hid (kindM_zero kd)
      have HK0 := Lib.hid (HE3.out kd)
      have HKB := Lib.hid (show 0 ≤ kindM kd ∧ kindM kd ≤ 1000000000000 by unfold kindM; (repeat' split) <;> omega)
      clear HE3 HAM CA
      generalize hkm : kindM kd = km at *
      generalize wB fr 0 4321439 = bf at *
      go_upto_region 6 with (fail)
      generalize wr.alloc (.cells #[.string key, .int .i64 kd, .int .i64 ia, .int .i64 ib, .slice tv tn tc, .int .i64 le, .int .i64 mo, .string gr, .bool al, .int .i64 od, .int .i64 fr, .int .i64 t2] 37) = w2 at *
      generalize hqb : wr.heap.size = qb at *
      clear c0 c1 c2 c3 c4 c5 c6 c7 c8 c9 c10 c11 hp
      obtain ⟨x0, x1, x2, x3, x4, x5, x6, x7, x8, x9, x10, x11⟩ := HX0.out.at12
      have hq := HX0.out.1
      have HI0 := Lib.hid (IMap.made w2)
      have HBm := Lib.hid (HB0.out.alloc HB0.out.size (.map #[] 0))
      have HXm := Lib.hid (HX0.out.alloc (.map #[] 0))
      have hqb2 : qb < w2.heap.size := HX0.out.1
      obtain ⟨mb, hmb⟩ : ∃ m, w2.heap.size = m := ⟨_, rfl⟩
      have HSZ := Lib.hid (show w.heap.size ≤ mb by rw [← hmb]; exact HB0.out.size)
      have HNE := Lib.hid (show (some mb) ≠ some qb by intro e; injection e with e; omega)
      rw [hmb] at HI0
      clear HX0 HB0
      go_wp2_with (refine wpList_insert_im _ rfl _ _ _ rfl mb 0 [] (by simp [Act.eval]) HI0.out (by unfold maxLen; omega) 1 100 rfl rfl (by decide) (by decide) (by decide) (by decide) ?_)
      intro y1 hM hg
      have HI1 := Lib.hid hM
      have HBm1 := Lib.hid (HBm.out.grown hg (HBm.out.size) (fun z hz => by injection hz with hz; have := HSZ.out; omega))
      have HXm1 := Lib.hid (HXm.out.grown hg HNE.out)
      clear hM hg HI0 HBm HXm
      go_wp2_with (refine wpList_insert_im _ rfl _ _ _ rfl mb 1 [(1, 100)] (by simp [Act.eval]) HI1.out (by unfold maxLen; omega) 2 1000000000000 rfl rfl (by decide) (by decide) (by decide) (by decide) ?_)
      intro y2 hM hg
      have HI2 := Lib.hid hM
      have HBm2 := Lib.hid (HBm1.out.grown hg (HBm1.out.size) (fun z hz => by injection hz with hz; have := HSZ.out; omega))
      have HXm2 := Lib.hid (HXm1.out.grown hg HNE.out)
      clear hM hg HI1 HBm1 HXm1
      go_wp2_with (refine wpList_insert_im _ rfl _ _ _ rfl mb 2 [(1, 100), (2, 1000000000000)] (by simp [Act.eval]) HI2.out (by unfold maxLen; omega) 4 1000000000000 rfl rfl (by decide) (by decide) (by decide) (by decide) ?_)
      intro y3 hM hg
      have HI3 := Lib.hid hM
      have HBm3 := Lib.hid (HBm2.out.grown hg (HBm2.out.size) (fun z hz => by injection hz with hz; have := HSZ.out; omega))
      have HXm3 := Lib.hid (HXm2.out.grown hg HNE.out)
      clear hM hg HI2 HBm2 HXm2
      go_wp2_with (refine wpList_insert_im _ rfl _ _ _ rfl mb 3 [(1, 100), (2, 1000000000000), (4, 1000000000000)] (by simp [Act.eval]) HI3.out (by unfold maxLen; omega) 3 20 rfl rfl (by decide) (by decide) (by decide) (by decide) ?_)
      intro y4 hM hg
      have HI4 := Lib.hid hM
      have HBm4 := Lib.hid (HBm3.out.grown hg (HBm3.out.size) (fun z hz => by injection hz with hz; have := HSZ.out; omega))
      have HXm4 := Lib.hid (HXm3.out.grown hg HNE.out)
      clear hM hg HI3 HBm3 HXm3
      clear x0 x1 x2 x3 x4 x5 x6 x7 x8 x9 x10 x11 hq
      obtain ⟨x0, x1, x2, x3, x4, x5, x6, x7, x8, x9, x10, x11⟩ := HXm4.out.at12
      have hq := HXm4.out.1
      go_upto_if 26 with (at_lookup; refine wpList_lookup_im _ rfl _ _ rfl mb 4 [(1, 100), (2, 1000000000000), (4, 1000000000000), (3, 20)] rfl HI4.out kd rfl (by omega) (by omega) km HK0.out.symm ?_)
      obtain ⟨lo, hlo⟩ : ∃ b, loB kd = b := ⟨_, rfl⟩
      obtain ⟨hi, hhi⟩ : ∃ b, hiB kd = b := ⟨_, rfl⟩
      rw [hlo, hhi] at HNO HYES
      go_cut [6, 7] (fun u v wx => u = .int .i64 lo ∧ v = .int .i64 hi ∧ wx = y4)
      case first =>
        by_cases h3 : kd = 3
        · have e3 : (kd == 3) = true := by simp [h3]
          have HL := Lib.hid (show Value.int .i64 1 = .int .i64 lo ∧ Value.int .i64 20 = .int .i64 hi by rw [← hlo, ← hhi]; unfold loB hiB; rw [if_pos h3, if_pos h3]; exact ⟨rfl, rfl⟩)
          clear h3 hlo hhi
          go_wp2_with fail
          go_meet
          exact ⟨HL.out.1, HL.out.2, rfl⟩
        · have e3 : (kd == 3) = false := by simpa using h3
          have HL := Lib.hid (show Value.int .i64 0 = .int .i64 lo ∧ Value.int .i64 0 = .int .i64 hi by rw [← hlo, ← hhi]; unfold loB hiB; rw [if_neg h3, if_neg h3]; exact ⟨rfl, rfl⟩)
          clear h3 hlo hhi
          go_wp2_with fail
          go_meet
          exact ⟨HL.out.1, HL.out.2, rfl⟩
      case rest =>
      obtain ⟨rfl, rfl, rfl⟩ := hcut
      have HLB := Lib.hid (show 0 ≤ lo ∧ lo ≤ 1 ∧ 0 ≤ hi ∧ hi ≤ 20 by rw [← hlo, ← hhi]; unfold loB hiB; split <;> omega)
      clear hlo hhi hkm
      have HX0 := HXm4
      have HB0 := HBm4
      clear HXm4 HBm4
      have HBE := Lib.hid (show (t2 ≤ fr ∨ 4321440 < t2 → wB t2 (fr + 1) 4321440 = false) ∧ (fr < t2 → t2 ≤ 4321440 → wB t2 (fr + 1) 4321440 = true) by
        unfold wB
        refine ⟨fun h => ?_, fun h1 h2 => ?_⟩
        · simp only [Bool.and_eq_false_iff, decide_eq_false_iff_not]; omega
        · simp only [Bool.and_eq_true, decide_eq_true_eq]; omega)
      have HBK := Lib.hid (show (km = 0 → wB kd 1 4 = false) ∧ (¬ km = 0 → wB kd 1 4 = true) by
        rw [wB_kind]
        refine ⟨fun h => decide_eq_false (HM0.out.1 h), fun h => decide_eq_true ?_⟩
        have := HM0.out
        omega)
      clear HM0 HK0
      generalize wB t2 (fr + 1) 4321440 = be at *
      generalize wB kd 1 4 = bk at *
      go_wp2_with fail
      with_reducible refine (C1.out _).mono ?_
      rintro e v1 ⟨rfl, d0⟩
      have HB1 := Lib.hid (HB0.out.trans (d0.mono HB0.out.size))
      have HX1 := Lib.hid (HX0.out.below d0)
      clear x0 x1 x2 x3 x4 x5 x6 x7 x8 x9 x10 x11 hq d0 HX0 HB0
      obtain ⟨x0, x1, x2, x3, x4, x5, x6, x7, x8, x9, x10, x11⟩ := HX1.out.at12
      have hq := HX1.out.1
      cases b1 with
      | false =>
        go_wp2_with fail
        go_ret
        exact ⟨ret_int ((HV.out.1 (by rw [HE.out]; simp [ofSt])).trans (HE.out.trans (by simp [ofSt]))).symm, HB1.out⟩
      | true =>
        go_wp2_with fail
        with_reducible refine (C2.out _ HB1.out _ x0).mono ?_
        rintro e v2 ⟨rfl, d1⟩
        have HB2 := Lib.hid (HB1.out.trans (d1.mono HB1.out.size))
        have HX2 := Lib.hid (HX1.out.below d1)
        clear x0 x1 x2 x3 x4 x5 x6 x7 x8 x9 x10 x11 hq d1 HX1 HB1
        obtain ⟨x0, x1, x2, x3, x4, x5, x6, x7, x8, x9, x10, x11⟩ := HX2.out.at12
        have hq := HX2.out.1
        cases b2 with
        | true =>
          go_wp2_with fail
          go_ret
          exact ⟨ret_int ((HV.out.1 (by rw [HE.out]; simp [ofSt])).trans (HE.out.trans (by simp [ofSt]))).symm, HB2.out⟩
        | false =>
          by_cases hk0 : km = 0
          · have e0 : (km == 0) = true := by simp [hk0]
            obtain rfl : bk = false := HBK.out.1 hk0
            clear hk0
            go_wp2_with fail
            go_ret
            exact ⟨ret_int ((HV.out.1 (by rw [HE.out]; simp [ofSt])).trans (HE.out.trans (by simp [ofSt]))).symm, HB2.out⟩
          · have e0 : (km == 0) = false := by simpa using hk0
            obtain rfl : bk = true := HBK.out.2 hk0
            clear hk0 HBK
            obtain ⟨kb0, kb1⟩ := HKB.out
            obtain ⟨lb0, lb1, lb2, lb3⟩ := HLB.out
            by_cases n0 : ia < 1
            · obtain rfl : b3 = false := HNO.out (by omega)
              clear HNO HYES
              go_wp2_with fail
              go_ret
              exact ⟨ret_int ((HV.out.1 (by rw [HE.out]; simp [ofSt])).trans (HE.out.trans (by simp [ofSt]))).symm, HB2.out⟩
            · skip
              by_cases n1 : km < ia
              · obtain rfl : b3 = false := HNO.out (by omega)
                clear HNO HYES
                go_wp2_with fail
                go_ret
                exact ⟨ret_int ((HV.out.1 (by rw [HE.out]; simp [ofSt])).trans (HE.out.trans (by simp [ofSt]))).symm, HB2.out⟩
              · skip
                by_cases n2 : ib < lo
                · obtain rfl : b3 = false := HNO.out (by omega)
                  clear HNO HYES
                  go_wp2_with fail
                  go_ret
                  exact ⟨ret_int ((HV.out.1 (by rw [HE.out]; simp [ofSt])).trans (HE.out.trans (by simp [ofSt]))).symm, HB2.out⟩
                · skip
                  by_cases n3 : hi < ib
                  · obtain rfl : b3 = false := HNO.out (by omega)
                    clear HNO HYES
                    go_wp2_with fail
                    go_ret
                    exact ⟨ret_int ((HV.out.1 (by rw [HE.out]; simp [ofSt])).trans (HE.out.trans (by simp [ofSt]))).symm, HB2.out⟩
                  · skip
                    by_cases n4 : le < 0
                    · obtain rfl : b3 = false := HNO.out (by omega)
                      clear HNO HYES
                      go_wp2_with fail
                      go_ret
                      exact ⟨ret_int ((HV.out.1 (by rw [HE.out]; simp [ofSt])).trans (HE.out.trans (by simp [ofSt]))).symm, HB2.out⟩
                    · skip
                      by_cases n5 : 1000000000000 < le
                      · obtain rfl : b3 = false := HNO.out (by omega)
                        clear HNO HYES
                        go_wp2_with fail
                        go_ret
                        exact ⟨ret_int ((HV.out.1 (by rw [HE.out]; simp [ofSt])).trans (HE.out.trans (by simp [ofSt]))).symm, HB2.out⟩
                      · skip
                        by_cases n6 : mo < 0
                        · obtain rfl : b3 = false := HNO.out (by omega)
                          clear HNO HYES
                          go_wp2_with fail
                          go_ret
                          exact ⟨ret_int ((HV.out.1 (by rw [HE.out]; simp [ofSt])).trans (HE.out.trans (by simp [ofSt]))).symm, HB2.out⟩
                        · skip
                          by_cases n7 : 1000000000000 < mo
                          · obtain rfl : b3 = false := HNO.out (by omega)
                            clear HNO HYES
                            go_wp2_with fail
                            go_ret
                            exact ⟨ret_int ((HV.out.1 (by rw [HE.out]; simp [ofSt])).trans (HE.out.trans (by simp [ofSt]))).symm, HB2.out⟩
                          · skip
                            by_cases n8 : od < 0
                            · obtain rfl : b3 = false := HNO.out (by omega)
                              clear HNO HYES
                              go_wp2_with fail
                              go_ret
                              exact ⟨ret_int ((HV.out.1 (by rw [HE.out]; simp [ofSt])).trans (HE.out.trans (by simp [ofSt]))).symm, HB2.out⟩
                            · skip
                              by_cases n9 : 1000 < od
                              · obtain rfl : b3 = false := HNO.out (by omega)
                                clear HNO HYES
                                go_wp2_with fail
                                go_ret
                                exact ⟨ret_int ((HV.out.1 (by rw [HE.out]; simp [ofSt])).trans (HE.out.trans (by simp [ofSt]))).symm, HB2.out⟩
                              · skip
                                obtain rfl : b3 = true := HYES.out (by omega) (by omega) (by omega) (by omega) (by omega) (by omega) (by omega) (by omega) (by omega) (by omega)
                                clear HNO HYES
                                go_wp2_with fail
                                with_reducible refine (CT.out _).mono ?_
                                rintro e v9 ⟨rfl, rfl⟩
                                cases bf with
                                | false =>
                                  go_wp2_with fail
                                  go_ret
                                  exact ⟨ret_int ((HV.out.1 (by rw [HE.out]; simp [ofSt])).trans (HE.out.trans (by simp [ofSt]))).symm, HB2.out⟩
                                | true =>
                                  clear n0 n1 n2 n3 n4 n5 n6 n7 n8 n9
                                  by_cases m0 : t2 ≤ fr
                                  · obtain rfl : be = false := HBE.out.1 (by omega)
                                    clear HBE
                                    go_wp2_with fail
                                    go_ret
                                    exact ⟨ret_int ((HV.out.1 (by rw [HE.out]; simp [ofSt])).trans (HE.out.trans (by simp [ofSt]))).symm, HB2.out⟩
                                  · skip
                                    by_cases m1 : 4321440 < t2
                                    · obtain rfl : be = false := HBE.out.1 (by omega)
                                      clear HBE
                                      go_wp2_with fail
                                      go_ret
                                      exact ⟨ret_int ((HV.out.1 (by rw [HE.out]; simp [ofSt])).trans (HE.out.trans (by simp [ofSt]))).symm, HB2.out⟩
                                    · skip
                                      obtain rfl : be = true := HBE.out.2 (by omega) (by omega)
                                      clear HBE
                                      cases ge with
                                      | true =>
                                        go_wp2_with fail
                                        with_reducible refine (C3.out _ HB2.out).mono ?_
                                        rintro e v3 ⟨rfl, d8⟩
                                        have HB3 := Lib.hid (HB2.out.trans (d8.mono HB2.out.size))
                                        have HX3 := Lib.hid (HX2.out.below d8)
                                        clear x0 x1 x2 x3 x4 x5 x6 x7 x8 x9 x10 x11 hq d8 HX2 HB2
                                        obtain ⟨x0, x1, x2, x3, x4, x5, x6, x7, x8, x9, x10, x11⟩ := HX3.out.at12
                                        have hq := HX3.out.1
                                        by_cases hte : te = 0
                                        · subst hte
                                          by_cases ht0 : tn = 0
                                          · subst ht0
                                            have HI1 := Lib.hid (HV.out.2 (HE.out.trans (by simp [ofSt])))
                                            clear HE HV
                                            go_wp2_with fail
                                            go_roundw
                                            case rel => exact ⟨k + 1, by omega, by go_num, HB3.out, HI1.out⟩
                                            case measure => simp [intOf]; omega
                                          · have ht1 : 0 < tn := by omega
                                            have ht2 : (0 : Int) < (tn : Int) := by omega
                                            by_cases h4 : kd = 4
                                            · have e4 : (kd == 4) = true := by simp [h4]
                                              have HR := Lib.hid (show ofE l = 3 from (HV.out.1 (by rw [HE.out]; simp [ofSt, ht1, h4])).trans (HE.out.trans (by simp [ofSt, ht1, h4])))
                                              clear HE HV
                                              go_wp2_with fail
                                              go_ret
                                              exact ⟨ret_int HR.out.symm, HB3.out⟩
                                            · have e4 : (kd == 4) = false := by simpa using h4
                                              have HI1 := Lib.hid (HV.out.2 (HE.out.trans (by simp [ofSt, ht1, h4])))
                                              clear HE HV
                                              go_wp2_with fail
                                              go_roundw
                                              case rel => exact ⟨k + 1, by omega, by go_num, HB3.out, HI1.out⟩
                                              case measure => simp [intOf]; omega
                                        · have HTE := Lib.hid hte
                                          have hce1 : (te == 0) = false := by simpa using hte
                                          have hce2 : (te != 0) = true := by simpa using hte
                                          have HR := Lib.hid (show ofE l = te from (HV.out.1 (by rw [HE.out]; simp [ofSt, hte])).trans (HE.out.trans (by simp [ofSt, hte])))
                                          clear HE HV
                                          go_wp2_with fail
                                          go_ret
                                          exact ⟨ret_int HR.out.symm, HB3.out⟩
                                      | false =>
                                        go_wp2_with fail
                                        with_reducible refine (C4.out _).mono ?_
                                        rintro e v3 ⟨rfl, d7⟩
                                        have HB3 := Lib.hid (HB2.out.trans (d7.mono HB2.out.size))
                                        have HX3 := Lib.hid (HX2.out.below d7)
                                        clear x0 x1 x2 x3 x4 x5 x6 x7 x8 x9 x10 x11 hq d7 HX2 HB2
                                        obtain ⟨x0, x1, x2, x3, x4, x5, x6, x7, x8, x9, x10, x11⟩ := HX3.out.at12
                                        have hq := HX3.out.1
                                        cases bg with
                                        | false =>
                                          go_wp2_with fail
                                          go_ret
                                          exact ⟨ret_int ((HV.out.1 (by rw [HE.out]; simp [ofSt])).trans (HE.out.trans (by simp [ofSt]))).symm, HB3.out⟩
                                        | true =>
                                          go_wp2_with fail
                                          with_reducible refine (C3.out _ HB3.out).mono ?_
                                          rintro e v4 ⟨rfl, d8⟩
                                          have HB4 := Lib.hid (HB3.out.trans (d8.mono HB3.out.size))
                                          have HX4 := Lib.hid (HX3.out.below d8)
                                          clear x0 x1 x2 x3 x4 x5 x6 x7 x8 x9 x10 x11 hq d8 HX3 HB3
                                          obtain ⟨x0, x1, x2, x3, x4, x5, x6, x7, x8, x9, x10, x11⟩ := HX4.out.at12
                                          have hq := HX4.out.1
                                          by_cases hte : te = 0
                                          · subst hte
                                            by_cases ht0 : tn = 0
                                            · subst ht0
                                              have HI1 := Lib.hid (HV.out.2 (HE.out.trans (by simp [ofSt])))
                                              clear HE HV
                                              go_wp2_with fail
                                              go_roundw
                                              case rel => exact ⟨k + 1, by omega, by go_num, HB4.out, HI1.out⟩
                                              case measure => simp [intOf]; omega
                                            · have ht1 : 0 < tn := by omega
                                              have ht2 : (0 : Int) < (tn : Int) := by omega
                                              by_cases h4 : kd = 4
                                              · have e4 : (kd == 4) = true := by simp [h4]
                                                have HR := Lib.hid (show ofE l = 3 from (HV.out.1 (by rw [HE.out]; simp [ofSt, ht1, h4])).trans (HE.out.trans (by simp [ofSt, ht1, h4])))
                                                clear HE HV
                                                go_wp2_with fail
                                                go_ret
                                                exact ⟨ret_int HR.out.symm, HB4.out⟩
                                              · have e4 : (kd == 4) = false := by simpa using h4
                                                have HI1 := Lib.hid (HV.out.2 (HE.out.trans (by simp [ofSt, ht1, h4])))
                                                clear HE HV
                                                go_wp2_with fail
                                                go_roundw
                                                case rel => exact ⟨k + 1, by omega, by go_num, HB4.out, HI1.out⟩
                                                case measure => simp [intOf]; omega
                                          · have HTE := Lib.hid hte
                                            have hce1 : (te == 0) = false := by simpa using hte
                                            have hce2 : (te != 0) = true := by simpa using hte
                                            have HR := Lib.hid (show ofE l = te from (HV.out.1 (by rw [HE.out]; simp [ofSt, hte])).trans (HE.out.trans (by simp [ofSt, hte])))
                                            clear HE HV
                                            go_wp2_with fail
                                            go_ret
                                            exact ⟨ret_int HR.out.symm, HB4.out⟩
    · have HD := Lib.hid (hV.done (by have := HN.out; omega))
      have HBB := Lib.hid hB
      clear hV hB
      go_wp2_with fail
      go_ret
      exact ⟨ret_int HD.out.symm, HBB.out⟩
end Go.Proofs.YtdefjnefkdemiaaGreatDoor
