/- What is wrong with a basket: offer.CheckBasket, handref1.BasketFault (printed by gen_basket.py). -/
import Derived.Test.YtdefjnefkdemiaaGreatDoorM4
import Derived.Test.YtdefjnefkdemiaaGreatDoorM1
import Derived.Test.YtdefjnefkdemiaaGreatDoorM2
import Derived.Deep.DeepCutAuto
import Derived.Deep.CutBlock
set_option linter.unusedVariables false
namespace Go.Proofs.YtdefjnefkdemiaaGreatDoor
open Go.RowKit

theorem XB.at2 {w : World} {q : Nat} {v0 v1 : Value} (h : XB w q [v0, v1]) : w.cell? ⟨q, 0, none⟩ = some v0 ∧ w.cell? ⟨q, 1, none⟩ = some v1 := ⟨h.2 0 _ rfl, h.2 1 _ rfl⟩
theorem itB_no (x : It) (h : x.cents < 0 ∨ 10000000 < x.cents ∨ x.many < 1 ∨ 100 < x.many) : itB x = false := by
  unfold itB
  simp only [Bool.and_eq_false_iff, decide_eq_false_iff_not]
  omega
theorem itB_yes (x : It) (h0 : 0 ≤ x.cents) (h1 : x.cents ≤ 10000000) (h2 : 1 ≤ x.many) (h3 : x.many ≤ 100) : itB x = true := by
  unfold itB
  simp [h0, h1, h2, h3]
theorem bk_bad {l : List It} {ship E : Int} (h : itGo [] l = E) (h0 : E ≠ 0) : (if itGo [] l ≠ 0 then itGo [] l else if ship < 0 ∨ 1000000000000 < ship then 1 else 0) = E := by
  rw [h, if_pos h0]

set_option maxRecDepth 100000 in
set_option maxHeartbeats 8000000 in
theorem CheckBasket_any (a : Option Addr) (l : List It) (n c : Nat) (ship : Int) (w : World) (hn : l.length = n) (hn1 : n ≤ 50) (hc : n ≤ c) (hc' : c ≤ maxLen) (hI : RAt w a 4 It.cells l) (hTG : TagsAt It.tv It.tags w l) (hok : ∀ x ∈ l, x.ok) :
    Calls Tryz.prog 53 #[.agg #[.slice a n c, .int .i64 ship]] w fun e w' => e = .returned (.int .i64 (bkE l ship)) ∧ Below w.heap.size w w' := by
  unfold maxLen at hc'
  have HN := Lib.hid hn
  have HI := Lib.hid hI
  have HTG := Lib.hid hTG
  have HOK := Lib.hid hok
  obtain ⟨V, hV⟩ : ∃ V, bkE l ship = V := ⟨_, rfl⟩
  rw [hV]
  have HVE := Lib.hid hV.symm
  unfold bkE at HVE
  have HB0 := Lib.hid ((Below.refl w.heap.size w).alloc (Nat.le_refl _) (.cells #[.slice a n c, .int .i64 ship] 30))
  have HX0 := Lib.hid (XB.new w [.slice a n c, .int .i64 ship] 30)
  simp only [List.toArray] at HX0
  obtain ⟨z0, z1⟩ := HX0.out.at2
  have hzl := HX0.out.1
  clear hn hI hok hTG hV
  go_enter Tryz.func53, Tryz.ntmps53
  go_wp2_with fail
  clear z0 z1 hzl
  go_loopw [3, 4, 5, 13] (fun _ _ _ i wr => ∃ k : Nat, k ≤ n ∧ i = .int .i64 k ∧ Below w.heap.size w wr ∧ ItInv l k ∧ XB wr w.heap.size [.slice a n c, .int .i64 ship]) (fun _ _ _ i _ => n - (intOf i).toNat)
  case atStart => exact ⟨0, Nat.zero_le _, rfl, HB0.out, ItInv.zero l, HX0.out⟩
  case round =>
    obtain ⟨k, hk, rfl, hB, hV, hX⟩ := hrel
    have HXK := Lib.hid hX
    clear hX HX0 HB0
    by_cases hlt : k < n
    · have hkl : k < l.length := by have := HN.out; omega
      obtain ⟨p, off, rfl, hp, c0, c1, c2, c3⟩ := (HI.out.below hB).at4 hkl (v0 := .string l[k].key) (v1 := .int .i64 l[k].cents) (v2 := .int .i64 l[k].many) (v3 := .slice l[k].tv l[k].tags.length l[k].tc) rfl
      obtain ⟨ok1, ok2, ok3, ok4, ok5, ok6, ok7⟩ := HOK.out l[k] (List.getElem_mem hkl)
      have HOS := Lib.hid ok7
      have HV := Lib.hid (hV.step hkl)
      have HE := Lib.hid (show itstepE (l.take k) l[k] = itSt (keyB l[k].key) (hasS ((l.take k).map It.key) l[k].key) (itB l[k]) (tgE l[k].tags) from rfl)
      have HNO := Lib.hid (itB_no l[k])
      have HYES := Lib.hid (itB_yes l[k])
      have HTX := Lib.hid (HTG.out l[k] (List.getElem_mem hkl))
      generalize l[k] = x at *
      obtain ⟨key, cents, many, tv, tc, tags⟩ := x
      simp only at c0 c1 c2 c3 ok1 ok2 ok3 ok4 ok5 ok6 HOS HNO HYES HE HTX
      have C1 := Lib.hid (fun w => isKey_any key w (by unfold maxLen; omega))
      have C2 := Lib.hid (fun w' (hb : Below w.heap.size w w') q hq => chkItHas_any (some ⟨p, off, none⟩) (l.take k) k c q key w' (by simp; omega) (by omega) ((HI.out.below hb).take k) hq)
      have C3 := Lib.hid (fun w' (hb : Below w.heap.size w w') => checkTags_any tv tags tags.length tc w' rfl (by omega) (HTX.out.below hb) (fun s hs => by have := HOS.out s hs; omega))
      generalize hasS ((l.take k).map It.key) key = b2 at *
      generalize itB ⟨key, cents, many, tv, tc, tags⟩ = b3 at *
      generalize keyB key = b1 at *
      generalize tgE tags = te at *
      have X0 := Lib.hid (XB.new wr [.string key, .int .i64 cents, .int .i64 many, .slice tv tags.length tc] 60)
      have HB := Lib.hid (hB.alloc hB.size (.cells #[.string key, .int .i64 cents, .int .i64 many, .slice tv tags.length tc] 60))
      have HXL := Lib.hid (HXK.out.alloc (.cells #[.string key, .int .i64 cents, .int .i64 many, .slice tv tags.length tc] 60))
      simp only [List.toArray] at X0
      clear hV HXK ok7
      go_wp2_with fail
      with_reducible refine (C1.out _).mono ?_
      rintro e w1 ⟨rfl, rfl⟩
      have d1 := Below.refl (wr.alloc (.cells #[.string key, .int .i64 cents, .int .i64 many, .slice tv tags.length tc] 60)).heap.size (wr.alloc (.cells #[.string key, .int .i64 cents, .int .i64 many, .slice tv tags.length tc] 60))
      have HB1 := Lib.hid (HB.out.trans (d1.mono HB.out.size))
      have X1 := X0.out.below d1
      have HX1L := Lib.hid (HXL.out.below d1)
      obtain ⟨x0, x1, x2, x3⟩ := X1.at4
      have hq := X1.1
      have HX1 := Lib.hid X1
      clear X0 HB X1 d1 HXL
      cases b1 with
      | false =>
        go_wp2_with fail
        go_ret
        exact ⟨ret_int (HVE.out.trans (bk_bad ((HV.out.1 (by rw [HE.out]; simp [itSt])).trans HE.out) (by simp [itSt]))).symm, HB1.out⟩
      | true =>
        obtain ⟨z0, z1⟩ := HX1L.out.at2
        have hzl := HX1L.out.1
        go_wp2_with fail
        with_reducible refine (C2.out _ HB1.out _ x0).mono ?_
        rintro e w2 ⟨rfl, d2⟩
        have HB2 := Lib.hid (HB1.out.trans (d2.mono HB1.out.size))
        have X2 := HX1.out.below d2
        have HX2L := Lib.hid (HX1L.out.below d2)
        clear x0 x1 x2 x3 hq z0 z1 hzl
        obtain ⟨x0, x1, x2, x3⟩ := X2.at4
        have hq := X2.1
        have HX2 := Lib.hid X2
        clear HX1 HX1L HB1 X2 d2 C1 C2
        cases b2 with
        | true =>
          go_wp2_with fail
          go_ret
          exact ⟨ret_int (HVE.out.trans (bk_bad ((HV.out.1 (by rw [HE.out]; simp [itSt])).trans HE.out) (by simp [itSt]))).symm, HB2.out⟩
        | false =>
          by_cases h0 : cents < 0 ∨ 10000000 < cents
          · obtain rfl : b3 = false := HNO.out (by omega)
            clear HNO HYES
            go_wp2_with fail
            with_reducible refine (owithin_no _ _ _ _ h0).mono ?_
            rintro e w5 ⟨rfl, rfl⟩
            go_wp2_with fail
            go_ret
            exact ⟨ret_int (HVE.out.trans (bk_bad ((HV.out.1 (by rw [HE.out]; simp [itSt])).trans HE.out) (by simp [itSt]))).symm, HB2.out⟩
          · skip
            have p0a : 0 ≤ cents := by omega
            have p0b : cents ≤ 10000000 := by omega
            clear h0
            by_cases h1 : many < 1 ∨ 100 < many
            · obtain rfl : b3 = false := HNO.out (by omega)
              clear HNO HYES
              go_wp2_with fail
              with_reducible refine (owithin_yes _ _ _ _ p0a p0b).mono ?_
              rintro e w5 ⟨rfl, rfl⟩
              go_wp2_with fail
              with_reducible refine (owithin_no _ _ _ _ h1).mono ?_
              rintro e w5 ⟨rfl, rfl⟩
              go_wp2_with fail
              go_ret
              exact ⟨ret_int (HVE.out.trans (bk_bad ((HV.out.1 (by rw [HE.out]; simp [itSt])).trans HE.out) (by simp [itSt]))).symm, HB2.out⟩
            · skip
              have p1a : 1 ≤ many := by omega
              have p1b : many ≤ 100 := by omega
              clear h1
              have HY := Lib.hid (HYES.out (by omega) (by omega) (by omega) (by omega))
              obtain rfl : b3 = true := HY.out
              clear HNO HYES HY
              go_wp2_with fail
              with_reducible refine (owithin_yes _ _ _ _ p0a p0b).mono ?_
              rintro e w5 ⟨rfl, rfl⟩
              go_wp2_with fail
              with_reducible refine (owithin_yes _ _ _ _ p1a p1b).mono ?_
              rintro e w5 ⟨rfl, rfl⟩
              go_wp2_with fail
              with_reducible refine (C3.out _ HB2.out).mono ?_
              rintro e w3 ⟨rfl, d3⟩
              have HB3 := Lib.hid (HB2.out.trans (d3.mono HB2.out.size))
              have HX3L := Lib.hid (HX2L.out.below d3)
              clear d3 HX2 HX2L HB2 x0 x1 x2 x3 hq C3
              by_cases hte : te = 0
              · subst hte
                have HI1 := Lib.hid (HV.out.2 (HE.out.trans (by simp [itSt])))
                go_wp2_with fail
                go_roundw
                case rel => exact ⟨k + 1, by omega, by go_num, HB3.out, HI1.out, HX3L.out⟩
                case measure => simp [intOf]; omega
              · have HTE := Lib.hid hte
                have hce1 : (te == 0) = false := by simpa using hte
                have hce2 : (te != 0) = true := by simpa using hte
                go_wp2_with fail
                go_ret
                exact ⟨ret_int (HVE.out.trans (bk_bad ((HV.out.1 (by rw [HE.out]; simp [itSt, HTE.out])).trans (HE.out.trans (by simp [itSt]))) HTE.out)).symm, HB3.out⟩
    · have HD := Lib.hid (hV.done (by have := HN.out; omega))
      have HVF := Lib.hid (HVE.out.trans (if_neg (by rw [HD.out]; decide)))
      have HBB := Lib.hid hB
      obtain ⟨z0, z1⟩ := HXK.out.at2
      have hzl := HXK.out.1
      clear hV hB HVE HD
      by_cases h0 : ship < 0 ∨ 1000000000000 < ship
      · have HR := Lib.hid (HVF.out.trans (if_pos h0))
        go_wp2_with fail
        with_reducible refine (owithin_no _ _ _ _ h0).mono ?_
        rintro e w5 ⟨rfl, rfl⟩
        go_wp2_with fail
        go_ret
        exact ⟨ret_int HR.out.symm, HBB.out⟩
      · have HR := Lib.hid (HVF.out.trans (if_neg h0))
        have p1 : 0 ≤ ship := by omega
        have p2 : ship ≤ 1000000000000 := by omega
        clear h0
        go_wp2_with fail
        with_reducible refine (owithin_yes _ _ _ _ p1 p2).mono ?_
        rintro e w5 ⟨rfl, rfl⟩
        go_wp2_with fail
        go_ret
        exact ⟨ret_int HR.out.symm, HBB.out⟩

set_option maxRecDepth 100000 in
set_option maxHeartbeats 8000000 in
theorem BasketFault_any (a : Option Addr) (l : List It) (n c : Nat) (ship : Int) (w : World) (hn : l.length = n) (hn1 : n ≤ 50) (hc : n ≤ c) (hc' : c ≤ maxLen) (hI : RAt w a 4 It.cells l) (hTG : TagsAt It.tv It.tags w l) (hok : ∀ x ∈ l, x.ok) :
    Calls Tryz.prog 35 #[.agg #[.slice a n c, .int .i64 ship]] w fun e w' => e = .returned (.int .i64 (bkE l ship)) ∧ Below w.heap.size w w' := by
  unfold maxLen at hc'
  have HN := Lib.hid hn
  have HI := Lib.hid hI
  have HTG := Lib.hid hTG
  have HOK := Lib.hid hok
  obtain ⟨V, hV⟩ : ∃ V, bkE l ship = V := ⟨_, rfl⟩
  rw [hV]
  have HVE := Lib.hid hV.symm
  unfold bkE at HVE
  have HB0 := Lib.hid ((Below.refl w.heap.size w).alloc (Nat.le_refl _) (.cells #[.slice a n c, .int .i64 ship] 30))
  have HX0 := Lib.hid (XB.new w [.slice a n c, .int .i64 ship] 30)
  simp only [List.toArray] at HX0
  obtain ⟨z0, z1⟩ := HX0.out.at2
  have hzl := HX0.out.1
  clear hn hI hok hTG hV
  go_enter Tryz.func35, Tryz.ntmps35
  go_wp2_with fail
  clear z0 z1 hzl
  go_loopw [3, 4, 5, 13] (fun _ _ _ i wr => ∃ k : Nat, k ≤ n ∧ i = .int .i64 k ∧ Below w.heap.size w wr ∧ ItInv l k ∧ XB wr w.heap.size [.slice a n c, .int .i64 ship]) (fun _ _ _ i _ => n - (intOf i).toNat)
  case atStart => exact ⟨0, Nat.zero_le _, rfl, HB0.out, ItInv.zero l, HX0.out⟩
  case round =>
    obtain ⟨k, hk, rfl, hB, hV, hX⟩ := hrel
    have HXK := Lib.hid hX
    clear hX HX0 HB0
    by_cases hlt : k < n
    · have hkl : k < l.length := by have := HN.out; omega
      obtain ⟨p, off, rfl, hp, c0, c1, c2, c3⟩ := (HI.out.below hB).at4 hkl (v0 := .string l[k].key) (v1 := .int .i64 l[k].cents) (v2 := .int .i64 l[k].many) (v3 := .slice l[k].tv l[k].tags.length l[k].tc) rfl
      obtain ⟨ok1, ok2, ok3, ok4, ok5, ok6, ok7⟩ := HOK.out l[k] (List.getElem_mem hkl)
      have HOS := Lib.hid ok7
      have HV := Lib.hid (hV.step hkl)
      have HE := Lib.hid (show itstepE (l.take k) l[k] = itSt (keyB l[k].key) (hasS ((l.take k).map It.key) l[k].key) (itB l[k]) (tgE l[k].tags) from rfl)
      have HNO := Lib.hid (itB_no l[k])
      have HYES := Lib.hid (itB_yes l[k])
      have HTX := Lib.hid (HTG.out l[k] (List.getElem_mem hkl))
      generalize l[k] = x at *
      obtain ⟨key, cents, many, tv, tc, tags⟩ := x
      simp only at c0 c1 c2 c3 ok1 ok2 ok3 ok4 ok5 ok6 HOS HNO HYES HE HTX
      have C1 := Lib.hid (fun w => keyOf_any key w (by unfold maxLen; omega))
      have C2 := Lib.hid (fun w' (hb : Below w.heap.size w w') q hq => itFaultHas_any (some ⟨p, off, none⟩) (l.take k) k c q key w' (by simp; omega) (by omega) ((HI.out.below hb).take k) hq)
      have C3 := Lib.hid (fun w' (hb : Below w.heap.size w w') => tagsFault_any tv tags tags.length tc w' rfl (by omega) (HTX.out.below hb) (fun s hs => by have := HOS.out s hs; omega))
      generalize hasS ((l.take k).map It.key) key = b2 at *
      generalize itB ⟨key, cents, many, tv, tc, tags⟩ = b3 at *
      generalize keyB key = b1 at *
      generalize tgE tags = te at *
      have X0 := Lib.hid (XB.new wr [.string key, .int .i64 cents, .int .i64 many, .slice tv tags.length tc] 60)
      have HB := Lib.hid (hB.alloc hB.size (.cells #[.string key, .int .i64 cents, .int .i64 many, .slice tv tags.length tc] 60))
      have HXL := Lib.hid (HXK.out.alloc (.cells #[.string key, .int .i64 cents, .int .i64 many, .slice tv tags.length tc] 60))
      simp only [List.toArray] at X0
      clear hV HXK ok7
      go_wp2_with fail
      with_reducible refine (C1.out _).mono ?_
      rintro e w1 ⟨rfl, d1⟩
      have HB1 := Lib.hid (HB.out.trans (d1.mono HB.out.size))
      have X1 := X0.out.below d1
      have HX1L := Lib.hid (HXL.out.below d1)
      obtain ⟨x0, x1, x2, x3⟩ := X1.at4
      have hq := X1.1
      have HX1 := Lib.hid X1
      clear X0 HB X1 d1 HXL
      cases b1 with
      | false =>
        go_wp2_with fail
        go_ret
        exact ⟨ret_int (HVE.out.trans (bk_bad ((HV.out.1 (by rw [HE.out]; simp [itSt])).trans HE.out) (by simp [itSt]))).symm, HB1.out⟩
      | true =>
        obtain ⟨z0, z1⟩ := HX1L.out.at2
        have hzl := HX1L.out.1
        go_wp2_with fail
        with_reducible refine (C2.out _ HB1.out _ x0).mono ?_
        rintro e w2 ⟨rfl, d2⟩
        have HB2 := Lib.hid (HB1.out.trans (d2.mono HB1.out.size))
        have X2 := HX1.out.below d2
        have HX2L := Lib.hid (HX1L.out.below d2)
        clear x0 x1 x2 x3 hq z0 z1 hzl
        obtain ⟨x0, x1, x2, x3⟩ := X2.at4
        have hq := X2.1
        have HX2 := Lib.hid X2
        clear HX1 HX1L HB1 X2 d2 C1 C2
        cases b2 with
        | true =>
          go_wp2_with fail
          go_ret
          exact ⟨ret_int (HVE.out.trans (bk_bad ((HV.out.1 (by rw [HE.out]; simp [itSt])).trans HE.out) (by simp [itSt]))).symm, HB2.out⟩
        | false =>
          by_cases h0 : cents < 0
          · obtain rfl : b3 = false := HNO.out (by omega)
            clear HNO HYES
            go_wp2_with fail
            go_ret
            exact ⟨ret_int (HVE.out.trans (bk_bad ((HV.out.1 (by rw [HE.out]; simp [itSt])).trans HE.out) (by simp [itSt]))).symm, HB2.out⟩
          · skip
            by_cases h1 : 10000000 < cents
            · obtain rfl : b3 = false := HNO.out (by omega)
              clear HNO HYES
              go_wp2_with fail
              go_ret
              exact ⟨ret_int (HVE.out.trans (bk_bad ((HV.out.1 (by rw [HE.out]; simp [itSt])).trans HE.out) (by simp [itSt]))).symm, HB2.out⟩
            · skip
              by_cases h2 : many < 1
              · obtain rfl : b3 = false := HNO.out (by omega)
                clear HNO HYES
                go_wp2_with fail
                go_ret
                exact ⟨ret_int (HVE.out.trans (bk_bad ((HV.out.1 (by rw [HE.out]; simp [itSt])).trans HE.out) (by simp [itSt]))).symm, HB2.out⟩
              · skip
                by_cases h3 : 100 < many
                · obtain rfl : b3 = false := HNO.out (by omega)
                  clear HNO HYES
                  go_wp2_with fail
                  go_ret
                  exact ⟨ret_int (HVE.out.trans (bk_bad ((HV.out.1 (by rw [HE.out]; simp [itSt])).trans HE.out) (by simp [itSt]))).symm, HB2.out⟩
                · skip
                  have HY := Lib.hid (HYES.out (by omega) (by omega) (by omega) (by omega))
                  obtain rfl : b3 = true := HY.out
                  clear HNO HYES HY
                  go_wp2_with fail
                  with_reducible refine (C3.out _ HB2.out).mono ?_
                  rintro e w3 ⟨rfl, d3⟩
                  have HB3 := Lib.hid (HB2.out.trans (d3.mono HB2.out.size))
                  have HX3L := Lib.hid (HX2L.out.below d3)
                  clear d3 HX2 HX2L HB2 x0 x1 x2 x3 hq C3
                  by_cases hte : te = 0
                  · subst hte
                    have HI1 := Lib.hid (HV.out.2 (HE.out.trans (by simp [itSt])))
                    go_wp2_with fail
                    go_roundw
                    case rel => exact ⟨k + 1, by omega, by go_num, HB3.out, HI1.out, HX3L.out⟩
                    case measure => simp [intOf]; omega
                  · have HTE := Lib.hid hte
                    have hce1 : (te == 0) = false := by simpa using hte
                    have hce2 : (te != 0) = true := by simpa using hte
                    go_wp2_with fail
                    go_ret
                    exact ⟨ret_int (HVE.out.trans (bk_bad ((HV.out.1 (by rw [HE.out]; simp [itSt, HTE.out])).trans (HE.out.trans (by simp [itSt]))) HTE.out)).symm, HB3.out⟩
    · have HD := Lib.hid (hV.done (by have := HN.out; omega))
      have HVF := Lib.hid (HVE.out.trans (if_neg (by rw [HD.out]; decide)))
      have HBB := Lib.hid hB
      obtain ⟨z0, z1⟩ := HXK.out.at2
      have hzl := HXK.out.1
      clear hV hB HVE HD
      by_cases h0 : ship < 0
      · have HR := Lib.hid (HVF.out.trans (if_pos (.inl h0)))
        go_wp2_with fail
        go_ret
        exact ⟨ret_int HR.out.symm, HBB.out⟩
      · by_cases h1 : 1000000000000 < ship
        · have HR := Lib.hid (HVF.out.trans (if_pos (.inr h1)))
          go_wp2_with fail
          go_ret
          exact ⟨ret_int HR.out.symm, HBB.out⟩
        · have HR := Lib.hid (HVF.out.trans (if_neg (by omega)))
          go_wp2_with fail
          go_ret
          exact ⟨ret_int HR.out.symm, HBB.out⟩
end Go.Proofs.YtdefjnefkdemiaaGreatDoor
/- Whether an offer fits: offer.fits, handref1.FitsOf (printed by gen_fits.py). -/
set_option linter.unusedVariables false
namespace Go.Proofs.YtdefjnefkdemiaaGreatDoor
open Go.RowKit

set_option maxRecDepth 100000 in
set_option maxHeartbeats 8000000 in
theorem fitsX_any (x : Of) (a : Option Addr) (l : List It) (n c : Nat) (ship t : Int) (w : World) (hn : l.length = n) (hn1 : n ≤ 50) (hc : n ≤ c) (hc' : c ≤ maxLen) (hI : RAt w a 4 It.cells l) (hTG : TagsAt It.tv It.tags w l) (hok : ∀ y ∈ l, y.ok) (hb : ∀ y ∈ l, itB y = true)
    (hx : x.ok) (hxt : StrsAt w x.tv x.tags) (hx4 : x.kind = 4 → x.tags.length = 0) :
    Calls Tryz.prog 31 #[.agg x.cells.toArray, .agg #[.slice a n c, .int .i64 ship], .int .i64 t] w fun e w' => e = .returned (.int .i64 (fitV x l ship t)) ∧ Below w.heap.size w w' := by
  unfold maxLen at hc'
  have HN := Lib.hid hn
  have HI := Lib.hid hI
  have HIB := Lib.hid hb
  have HF0 := Lib.hid (show fitS (fun y => mtB x y) (l.take 0) = 0 by rw [List.take_zero]; rfl)
  have HFL := Lib.hid (show fitS (fun y => mtB x y) (l.take n) = fitA x l by rw [← hn, List.take_length]; rfl)
  have HFV := Lib.hid (show fitV x l ship t = if t < x.from_ then 1 else if x.to_ ≤ t then 2 else if (if x.kind = 4 then ship = 0 else fitA x l = 0) then 3 else if fitA x l < x.least then 4 else 0 from rfl)
  have HM := Lib.hid (fun y w' (h1 : y ∈ l) (hbl : Below w.heap.size w w') => matchesX_any x y w' (by have := hx.2.2.2.2.2.2.2.1; omega) (by have := (hok y h1).2.2.2.2.2.1; omega) (hxt.below hbl) ((hTG y h1).below hbl))
  have HM4 := Lib.hid (fun (h : x.kind = 4) y => show mtB x y = true by unfold mtB; rw [hx4 h]; rfl)
  have HOK := Lib.hid (show -2000000000000 ≤ x.least ∧ x.least ≤ 2000000000000 from ⟨hx.2.2.2.2.2.2.2.2.2.1, hx.2.2.2.2.2.2.2.2.2.2.1⟩)
  have HFS := Lib.hid (fun k (h : k < l.length) => fitS_succ (fun y => mtB x y) l k h)
  have HBD := Lib.hid (fun k (h : k ≤ n) => show 0 ≤ fitS (fun y => mtB x y) (l.take k) ∧ fitS (fun y => mtB x y) (l.take k) ≤ 50000000000 from by
    have h1 := fitS_bd (fun y => mtB x y) (l.take k) (fun y hy => hb y (List.mem_of_mem_take hy))
    have h2 : (l.take k).length ≤ 50 := by rw [List.length_take]; omega
    omega)
  generalize fitV x l ship t = V at *
  generalize fitA x l = A at *
  obtain ⟨k0, kd, ia, ib, tv, tc, tags, le, mo, gr, al, od, fr, t2⟩ := x
  simp only at HF0 HFL HFV HM HM4 HOK HFS HBD ⊢
  generalize hf : (fun y => mtB ⟨k0, kd, ia, ib, tv, tc, tags, le, mo, gr, al, od, fr, t2⟩ y) = f at *
  have hf' : ∀ y, mtB ⟨k0, kd, ia, ib, tv, tc, tags, le, mo, gr, al, od, fr, t2⟩ y = f y := fun y => by rw [← hf]
  simp only [hf'] at HM HM4 HFS
  have HB0 := Lib.hid (((Below.refl w.heap.size w).alloc (Nat.le_refl _) (.cells #[.string k0, .int .i64 kd, .int .i64 ia, .int .i64 ib, .slice tv tags.length tc, .int .i64 le, .int .i64 mo, .string gr, .bool al, .int .i64 od, .int .i64 fr, .int .i64 t2] 37)).alloc (by simp) (.cells #[.slice a n c, .int .i64 ship] 30))
  have HX0 := Lib.hid ((XB.new w [.string k0, .int .i64 kd, .int .i64 ia, .int .i64 ib, .slice tv tags.length tc, .int .i64 le, .int .i64 mo, .string gr, .bool al, .int .i64 od, .int .i64 fr, .int .i64 t2] 37).alloc (.cells #[.slice a n c, .int .i64 ship] 30))
  have HY0 := Lib.hid (XB.new (w.alloc (.cells #[.string k0, .int .i64 kd, .int .i64 ia, .int .i64 ib, .slice tv tags.length tc, .int .i64 le, .int .i64 mo, .string gr, .bool al, .int .i64 od, .int .i64 fr, .int .i64 t2] 37)) [.slice a n c, .int .i64 ship] 30)
  simp only [List.toArray] at HX0 HY0
  have hz : (w.alloc (.cells #[.string k0, .int .i64 kd, .int .i64 ia, .int .i64 ib, .slice tv tags.length tc, .int .i64 le, .int .i64 mo, .string gr, .bool al, .int .i64 od, .int .i64 fr, .int .i64 t2] 37)).heap.size = w.heap.size + 1 := by simp
  rw [hz] at HY0
  clear hn hI hTG hok hb hx hxt hx4 hf hf' hz
  rw [show (Of.cells ⟨k0, kd, ia, ib, tv, tc, tags, le, mo, gr, al, od, fr, t2⟩).toArray = #[.string k0, .int .i64 kd, .int .i64 ia, .int .i64 ib, .slice tv tags.length tc, .int .i64 le, .int .i64 mo, .string gr, .bool al, .int .i64 od, .int .i64 fr, .int .i64 t2] from rfl]
  go_enter Tryz.func31, Tryz.ntmps31
  go_upto_region 1 with (fail)
  generalize (w.alloc (.cells #[.string k0, .int .i64 kd, .int .i64 ia, .int .i64 ib, .slice tv tags.length tc, .int .i64 le, .int .i64 mo, .string gr, .bool al, .int .i64 od, .int .i64 fr, .int .i64 t2] 37)).alloc (.cells #[.slice a n c, .int .i64 ship] 30) = w1 at *
  obtain ⟨z0, z1⟩ := HY0.out.at2
  have hzl := HY0.out.1
  go_wp2_with fail
  clear z0 z1 hzl
  go_loopw [7, 9, 14] (fun s _ i wr => ∃ k : Nat, k ≤ n ∧ i = .int .i64 k ∧ s = .int .i64 (fitS f (l.take k)) ∧ Below w.heap.size w wr ∧ XB wr w.heap.size [.string k0, .int .i64 kd, .int .i64 ia, .int .i64 ib, .slice tv tags.length tc, .int .i64 le, .int .i64 mo, .string gr, .bool al, .int .i64 od, .int .i64 fr, .int .i64 t2] ∧ XB wr (w.heap.size + 1) [.slice a n c, .int .i64 ship]) (fun _ _ i _ => n - (intOf i).toNat)
  case atStart => exact ⟨0, Nat.zero_le _, rfl, congrArg (Value.int .i64) HF0.out.symm, HB0.out, HX0.out, HY0.out⟩
  case round =>
    obtain ⟨k, hk, rfl, rfl, hB, hX, hY⟩ := hrel
    have HX := Lib.hid hX
    have HY := Lib.hid hY
    have HB := Lib.hid hB
    obtain ⟨bd0, bd1⟩ := HBD.out k hk
    clear hX hY HX0 HY0 HB0
    by_cases hlt : k < n
    · have hkl : k < l.length := by have := HN.out; omega
      obtain ⟨p, off, rfl, hp, c0, c1, c2, c3⟩ := (HI.out.below hB).at4 hkl (v0 := .string l[k].key) (v1 := .int .i64 l[k].cents) (v2 := .int .i64 l[k].many) (v3 := .slice l[k].tv l[k].tags.length l[k].tc) rfl
      have HS := Lib.hid (HFS.out k hkl)
      have C := Lib.hid (fun w' hbl => HM.out l[k] w' (List.getElem_mem hkl) hbl)
      have HK4 := Lib.hid (fun h => HM4.out h l[k])
      obtain ⟨m0, m1⟩ := it_mul (HIB.out l[k] (List.getElem_mem hkl))
      obtain ⟨q0, q1, q2, q3⟩ := itB_bd (HIB.out l[k] (List.getElem_mem hkl))
      generalize fitS f (l.take k) = s0 at *
      generalize f l[k] = m at *
      generalize l[k] = y at *
      obtain ⟨yk, yc, ym, yv, ytc, yt⟩ := y
      simp only at c0 c1 c2 c3 HS C m0 m1 q0 q1 q2 q3
      have HBa := Lib.hid (HB.out.alloc HB.out.size (.cells #[.string yk, .int .i64 yc, .int .i64 ym, .slice yv yt.length ytc] 60))
      have X0 := Lib.hid (XB.new wr [.string yk, .int .i64 yc, .int .i64 ym, .slice yv yt.length ytc] 60)
      have HXa := Lib.hid (HX.out.alloc (.cells #[.string yk, .int .i64 yc, .int .i64 ym, .slice yv yt.length ytc] 60))
      have HYa := Lib.hid (HY.out.alloc (.cells #[.string yk, .int .i64 yc, .int .i64 ym, .slice yv yt.length ytc] 60))
      simp only [List.toArray] at X0
      clear hB HX HY HB HFS HM HM4
      go_upto_region 5 with (fail)
      generalize wr.alloc (.cells #[.string yk, .int .i64 yc, .int .i64 ym, .slice yv yt.length ytc] 60) = w2 at *
      generalize hqb : wr.heap.size = qb at *
      clear c0 c1 c2 c3 hp
      obtain ⟨x0, x1, x2, x3, x4, x5, x6, x7, x8, x9, x10, x11⟩ := HXa.out.at12
      have hxl := HXa.out.1
      obtain ⟨y0, y1, y2, y3⟩ := X0.out.at4
      have hyl := X0.out.1
      by_cases h4 : kd = 4
      · obtain rfl : m = true := HK4.out h4
        have e4 : (kd == 4) = true := by simp [h4]
        clear h4 HK4
        have HB3 := HBa
        have HXb := HXa
        have HYb := HYa
        go_wp2_with fail
        go_roundw
        case rel => exact ⟨k + 1, by omega, by go_num, congrArg (Value.int .i64) (show s0 + yc * ym = fitS f (l.take (k + 1)) by rw [HS.out]; simp), HB3.out, HXb.out, HYb.out⟩
        case measure => simp [intOf]; omega
      · have e4 : (kd == 4) = false := by simpa using h4
        clear h4 HK4
        go_wp2_with fail
        with_reducible refine (C.out _ HBa.out).mono ?_
        rintro e w3 ⟨rfl, d3⟩
        have HB3 := Lib.hid (HBa.out.trans (d3.mono HBa.out.size))
        have HXb := Lib.hid (HXa.out.below d3)
        have HYb := Lib.hid (HYa.out.below d3)
        have X3 := Lib.hid (X0.out.below d3)
        clear x0 x1 x2 x3 x4 x5 x6 x7 x8 x9 x10 x11 hxl y0 y1 y2 y3 hyl d3 HBa HXa HYa X0
        obtain ⟨y0, y1, y2, y3⟩ := X3.out.at4
        have hyl := X3.out.1
        cases m with
        | true =>
          go_wp2_with fail
          go_roundw
          case rel => exact ⟨k + 1, by omega, by go_num, congrArg (Value.int .i64) (show s0 + yc * ym = fitS f (l.take (k + 1)) by rw [HS.out]; simp), HB3.out, HXb.out, HYb.out⟩
          case measure => simp [intOf]; omega
        | false =>
          go_wp2_with fail
          go_roundw
          case rel => exact ⟨k + 1, by omega, by go_num, congrArg (Value.int .i64) (show s0 = fitS f (l.take (k + 1)) by rw [HS.out]; simp), HB3.out, HXb.out, HYb.out⟩
          case measure => simp [intOf]; omega
    · have hkn : k = n := by omega
      subst hkn
      have HA := Lib.hid HFL.out
      rw [HFL.out] at bd0 bd1 ⊢
      obtain ⟨le0, le1⟩ := HOK.out
      obtain ⟨x0, x1, x2, x3, x4, x5, x6, x7, x8, x9, x10, x11⟩ := HX.out.at12
      obtain ⟨y0, y1⟩ := HY.out.at2
      have hxl := HX.out.1
      have hyl := HY.out.1
      clear hB HX HY HFL HFS HM HM4 HA HBD HOK HIB HI HN
      by_cases h4 : kd = 4
      · have e4 : (kd == 4) = true := by simp [h4]
        by_cases h1 : t < fr
        · have HR := Lib.hid (HFV.out.trans (if_pos h1))
          clear HFV
          go_wp2_with fail
          go_ret
          exact ⟨ret_int HR.out.symm, HB.out⟩
        · by_cases h2 : t2 ≤ t
          · have HR := Lib.hid ((HFV.out.trans (if_neg h1)).trans (if_pos h2))
            clear HFV
            go_wp2_with fail
            go_ret
            exact ⟨ret_int HR.out.symm, HB.out⟩
          · by_cases h3 : ship = 0
            · have e3 : (ship == 0) = true := by simp [h3]
              have HR := Lib.hid (((HFV.out.trans (if_neg h1)).trans (if_neg h2)).trans (if_pos (by rw [if_pos h4]; exact h3)))
              clear HFV
              go_wp2_with fail
              go_ret
              exact ⟨ret_int HR.out.symm, HB.out⟩
            · have e3 : (ship == 0) = false := by simpa using h3
              by_cases h5 : A < le
              · have HR := Lib.hid ((((HFV.out.trans (if_neg h1)).trans (if_neg h2)).trans (if_neg (by rw [if_pos h4]; exact h3))).trans (if_pos h5))
                clear HFV
                go_wp2_with fail
                go_ret
                exact ⟨ret_int HR.out.symm, HB.out⟩
              · have HR := Lib.hid ((((HFV.out.trans (if_neg h1)).trans (if_neg h2)).trans (if_neg (by rw [if_pos h4]; exact h3))).trans (if_neg h5))
                clear HFV
                go_wp2_with fail
                go_ret
                exact ⟨ret_int HR.out.symm, HB.out⟩
      · have e4 : (kd == 4) = false := by simpa using h4
        by_cases h1 : t < fr
        · have HR := Lib.hid (HFV.out.trans (if_pos h1))
          clear HFV
          go_wp2_with fail
          go_ret
          exact ⟨ret_int HR.out.symm, HB.out⟩
        · by_cases h2 : t2 ≤ t
          · have HR := Lib.hid ((HFV.out.trans (if_neg h1)).trans (if_pos h2))
            clear HFV
            go_wp2_with fail
            go_ret
            exact ⟨ret_int HR.out.symm, HB.out⟩
          · by_cases h3 : A = 0
            · have e3 : (A == 0) = true := by simp [h3]
              have HR := Lib.hid (((HFV.out.trans (if_neg h1)).trans (if_neg h2)).trans (if_pos (by rw [if_neg h4]; exact h3)))
              clear HFV
              go_wp2_with fail
              go_ret
              exact ⟨ret_int HR.out.symm, HB.out⟩
            · have e3 : (A == 0) = false := by simpa using h3
              by_cases h5 : A < le
              · have HR := Lib.hid ((((HFV.out.trans (if_neg h1)).trans (if_neg h2)).trans (if_neg (by rw [if_neg h4]; exact h3))).trans (if_pos h5))
                clear HFV
                go_wp2_with fail
                go_ret
                exact ⟨ret_int HR.out.symm, HB.out⟩
              · have HR := Lib.hid ((((HFV.out.trans (if_neg h1)).trans (if_neg h2)).trans (if_neg (by rw [if_neg h4]; exact h3))).trans (if_neg h5))
                clear HFV
                go_wp2_with fail
                go_ret
                exact ⟨ret_int HR.out.symm, HB.out⟩

set_option maxRecDepth 100000 in
set_option maxHeartbeats 8000000 in
theorem fitsR_any (x : Of) (a : Option Addr) (l : List It) (n c : Nat) (ship t : Int) (w : World) (hn : l.length = n) (hn1 : n ≤ 50) (hc : n ≤ c) (hc' : c ≤ maxLen) (hI : RAt w a 4 It.cells l) (hTG : TagsAt It.tv It.tags w l) (hok : ∀ y ∈ l, y.ok) (hb : ∀ y ∈ l, itB y = true)
    (hx : x.ok) (hxt : StrsAt w x.tv x.tags) (hx4 : x.kind = 4 → x.tags.length = 0) :
    Calls Tryz.prog 12 #[.agg x.cells.toArray, .agg #[.slice a n c, .int .i64 ship], .int .i64 t] w fun e w' => e = .returned (.int .i64 (fitV x l ship t)) ∧ Below w.heap.size w w' := by
  unfold maxLen at hc'
  have HN := Lib.hid hn
  have HI := Lib.hid hI
  have HIB := Lib.hid hb
  have HF0 := Lib.hid (show fitS (fun y => mtB x y) (l.take 0) = 0 by rw [List.take_zero]; rfl)
  have HFL := Lib.hid (show fitS (fun y => mtB x y) (l.take n) = fitA x l by rw [← hn, List.take_length]; rfl)
  have HFV := Lib.hid (show fitV x l ship t = if t < x.from_ then 1 else if x.to_ ≤ t then 2 else if (if x.kind = 4 then ship = 0 else fitA x l = 0) then 3 else if fitA x l < x.least then 4 else 0 from rfl)
  have HM := Lib.hid (fun y w' (h1 : y ∈ l) (hbl : Below w.heap.size w w') => matchesR_any x y w' (by have := hx.2.2.2.2.2.2.2.1; omega) (by have := (hok y h1).2.2.2.2.2.1; omega) (hxt.below hbl) ((hTG y h1).below hbl))
  have HM4 := Lib.hid (fun (h : x.kind = 4) y => show mtB x y = true by unfold mtB; rw [hx4 h]; rfl)
  have HOK := Lib.hid (show -2000000000000 ≤ x.least ∧ x.least ≤ 2000000000000 from ⟨hx.2.2.2.2.2.2.2.2.2.1, hx.2.2.2.2.2.2.2.2.2.2.1⟩)
  have HFS := Lib.hid (fun k (h : k < l.length) => fitS_succ (fun y => mtB x y) l k h)
  have HBD := Lib.hid (fun k (h : k ≤ n) => show 0 ≤ fitS (fun y => mtB x y) (l.take k) ∧ fitS (fun y => mtB x y) (l.take k) ≤ 50000000000 from by
    have h1 := fitS_bd (fun y => mtB x y) (l.take k) (fun y hy => hb y (List.mem_of_mem_take hy))
    have h2 : (l.take k).length ≤ 50 := by rw [List.length_take]; omega
    omega)
  generalize fitV x l ship t = V at *
  generalize fitA x l = A at *
  obtain ⟨k0, kd, ia, ib, tv, tc, tags, le, mo, gr, al, od, fr, t2⟩ := x
  simp only at HF0 HFL HFV HM HM4 HOK HFS HBD ⊢
  generalize hf : (fun y => mtB ⟨k0, kd, ia, ib, tv, tc, tags, le, mo, gr, al, od, fr, t2⟩ y) = f at *
  have hf' : ∀ y, mtB ⟨k0, kd, ia, ib, tv, tc, tags, le, mo, gr, al, od, fr, t2⟩ y = f y := fun y => by rw [← hf]
  simp only [hf'] at HM HM4 HFS
  have HB0 := Lib.hid (((Below.refl w.heap.size w).alloc (Nat.le_refl _) (.cells #[.string k0, .int .i64 kd, .int .i64 ia, .int .i64 ib, .slice tv tags.length tc, .int .i64 le, .int .i64 mo, .string gr, .bool al, .int .i64 od, .int .i64 fr, .int .i64 t2] 37)).alloc (by simp) (.cells #[.slice a n c, .int .i64 ship] 30))
  have HX0 := Lib.hid ((XB.new w [.string k0, .int .i64 kd, .int .i64 ia, .int .i64 ib, .slice tv tags.length tc, .int .i64 le, .int .i64 mo, .string gr, .bool al, .int .i64 od, .int .i64 fr, .int .i64 t2] 37).alloc (.cells #[.slice a n c, .int .i64 ship] 30))
  have HY0 := Lib.hid (XB.new (w.alloc (.cells #[.string k0, .int .i64 kd, .int .i64 ia, .int .i64 ib, .slice tv tags.length tc, .int .i64 le, .int .i64 mo, .string gr, .bool al, .int .i64 od, .int .i64 fr, .int .i64 t2] 37)) [.slice a n c, .int .i64 ship] 30)
  simp only [List.toArray] at HX0 HY0
  have hz : (w.alloc (.cells #[.string k0, .int .i64 kd, .int .i64 ia, .int .i64 ib, .slice tv tags.length tc, .int .i64 le, .int .i64 mo, .string gr, .bool al, .int .i64 od, .int .i64 fr, .int .i64 t2] 37)).heap.size = w.heap.size + 1 := by simp
  rw [hz] at HY0
  clear hn hI hTG hok hb hx hxt hx4 hf hf' hz
  rw [show (Of.cells ⟨k0, kd, ia, ib, tv, tc, tags, le, mo, gr, al, od, fr, t2⟩).toArray = #[.string k0, .int .i64 kd, .int .i64 ia, .int .i64 ib, .slice tv tags.length tc, .int .i64 le, .int .i64 mo, .string gr, .bool al, .int .i64 od, .int .i64 fr, .int .i64 t2] from rfl]
  go_enter Tryz.func12, Tryz.ntmps12
  go_upto_region 1 with (fail)
  generalize (w.alloc (.cells #[.string k0, .int .i64 kd, .int .i64 ia, .int .i64 ib, .slice tv tags.length tc, .int .i64 le, .int .i64 mo, .string gr, .bool al, .int .i64 od, .int .i64 fr, .int .i64 t2] 37)).alloc (.cells #[.slice a n c, .int .i64 ship] 30) = w1 at *
  obtain ⟨z0, z1⟩ := HY0.out.at2
  have hzl := HY0.out.1
  go_wp2_with fail
  clear z0 z1 hzl
  go_loopw [7, 9, 14] (fun s _ i wr => ∃ k : Nat, k ≤ n ∧ i = .int .i64 k ∧ s = .int .i64 (fitS f (l.take k)) ∧ Below w.heap.size w wr ∧ XB wr w.heap.size [.string k0, .int .i64 kd, .int .i64 ia, .int .i64 ib, .slice tv tags.length tc, .int .i64 le, .int .i64 mo, .string gr, .bool al, .int .i64 od, .int .i64 fr, .int .i64 t2] ∧ XB wr (w.heap.size + 1) [.slice a n c, .int .i64 ship]) (fun _ _ i _ => n - (intOf i).toNat)
  case atStart => exact ⟨0, Nat.zero_le _, rfl, congrArg (Value.int .i64) HF0.out.symm, HB0.out, HX0.out, HY0.out⟩
  case round =>
    obtain ⟨k, hk, rfl, rfl, hB, hX, hY⟩ := hrel
    have HX := Lib.hid hX
    have HY := Lib.hid hY
    have HB := Lib.hid hB
    obtain ⟨bd0, bd1⟩ := HBD.out k hk
    clear hX hY HX0 HY0 HB0
    by_cases hlt : k < n
    · have hkl : k < l.length := by have := HN.out; omega
      obtain ⟨p, off, rfl, hp, c0, c1, c2, c3⟩ := (HI.out.below hB).at4 hkl (v0 := .string l[k].key) (v1 := .int .i64 l[k].cents) (v2 := .int .i64 l[k].many) (v3 := .slice l[k].tv l[k].tags.length l[k].tc) rfl
      have HS := Lib.hid (HFS.out k hkl)
      have C := Lib.hid (fun w' hbl => HM.out l[k] w' (List.getElem_mem hkl) hbl)
      have HK4 := Lib.hid (fun h => HM4.out h l[k])
      obtain ⟨m0, m1⟩ := it_mul (HIB.out l[k] (List.getElem_mem hkl))
      obtain ⟨q0, q1, q2, q3⟩ := itB_bd (HIB.out l[k] (List.getElem_mem hkl))
      generalize fitS f (l.take k) = s0 at *
      generalize f l[k] = m at *
      generalize l[k] = y at *
      obtain ⟨yk, yc, ym, yv, ytc, yt⟩ := y
      simp only at c0 c1 c2 c3 HS C m0 m1 q0 q1 q2 q3
      have HBa := Lib.hid (HB.out.alloc HB.out.size (.cells #[.string yk, .int .i64 yc, .int .i64 ym, .slice yv yt.length ytc] 60))
      have X0 := Lib.hid (XB.new wr [.string yk, .int .i64 yc, .int .i64 ym, .slice yv yt.length ytc] 60)
      have HXa := Lib.hid (HX.out.alloc (.cells #[.string yk, .int .i64 yc, .int .i64 ym, .slice yv yt.length ytc] 60))
      have HYa := Lib.hid (HY.out.alloc (.cells #[.string yk, .int .i64 yc, .int .i64 ym, .slice yv yt.length ytc] 60))
      simp only [List.toArray] at X0
      clear hB HX HY HB HFS HM HM4
      go_upto_region 5 with (fail)
      generalize wr.alloc (.cells #[.string yk, .int .i64 yc, .int .i64 ym, .slice yv yt.length ytc] 60) = w2 at *
      generalize hqb : wr.heap.size = qb at *
      clear c0 c1 c2 c3 hp
      obtain ⟨x0, x1, x2, x3, x4, x5, x6, x7, x8, x9, x10, x11⟩ := HXa.out.at12
      have hxl := HXa.out.1
      obtain ⟨y0, y1, y2, y3⟩ := X0.out.at4
      have hyl := X0.out.1
      go_wp2_with fail
      with_reducible refine (C.out _ HBa.out).mono ?_
      rintro e w3 ⟨rfl, d3⟩
      have HB3 := Lib.hid (HBa.out.trans (d3.mono HBa.out.size))
      have HXb := Lib.hid (HXa.out.below d3)
      have HYb := Lib.hid (HYa.out.below d3)
      have X3 := Lib.hid (X0.out.below d3)
      clear x0 x1 x2 x3 x4 x5 x6 x7 x8 x9 x10 x11 hxl y0 y1 y2 y3 hyl d3 HBa HXa HYa X0
      obtain ⟨y0, y1, y2, y3⟩ := X3.out.at4
      have hyl := X3.out.1
      cases m with
      | true =>
        go_wp2_with fail
        go_roundw
        case rel => exact ⟨k + 1, by omega, by go_num, congrArg (Value.int .i64) (show s0 + yc * ym = fitS f (l.take (k + 1)) by rw [HS.out]; simp), HB3.out, HXb.out, HYb.out⟩
        case measure => simp [intOf]; omega
      | false =>
        go_wp2_with fail
        go_roundw
        case rel => exact ⟨k + 1, by omega, by go_num, congrArg (Value.int .i64) (show s0 = fitS f (l.take (k + 1)) by rw [HS.out]; simp), HB3.out, HXb.out, HYb.out⟩
        case measure => simp [intOf]; omega
    · have hkn : k = n := by omega
      subst hkn
      have HA := Lib.hid HFL.out
      rw [HFL.out] at bd0 bd1 ⊢
      obtain ⟨le0, le1⟩ := HOK.out
      obtain ⟨x0, x1, x2, x3, x4, x5, x6, x7, x8, x9, x10, x11⟩ := HX.out.at12
      obtain ⟨y0, y1⟩ := HY.out.at2
      have hxl := HX.out.1
      have hyl := HY.out.1
      clear hB HX HY HFL HFS HM HM4 HA HBD HOK HIB HI HN
      by_cases h4 : kd = 4
      · have e4 : (kd == 4) = true := by simp [h4]
        by_cases h1 : t < fr
        · have HR := Lib.hid (HFV.out.trans (if_pos h1))
          clear HFV
          go_wp2_with fail
          go_ret
          exact ⟨ret_int HR.out.symm, HB.out⟩
        · by_cases h2 : t2 ≤ t
          · have HR := Lib.hid ((HFV.out.trans (if_neg h1)).trans (if_pos h2))
            clear HFV
            go_wp2_with fail
            go_ret
            exact ⟨ret_int HR.out.symm, HB.out⟩
          · by_cases h3 : ship = 0
            · have e3 : (ship == 0) = true := by simp [h3]
              have HR := Lib.hid (((HFV.out.trans (if_neg h1)).trans (if_neg h2)).trans (if_pos (by rw [if_pos h4]; exact h3)))
              clear HFV
              go_wp2_with fail
              go_ret
              exact ⟨ret_int HR.out.symm, HB.out⟩
            · have e3 : (ship == 0) = false := by simpa using h3
              by_cases h5 : A < le
              · have HR := Lib.hid ((((HFV.out.trans (if_neg h1)).trans (if_neg h2)).trans (if_neg (by rw [if_pos h4]; exact h3))).trans (if_pos h5))
                clear HFV
                go_wp2_with fail
                go_ret
                exact ⟨ret_int HR.out.symm, HB.out⟩
              · have HR := Lib.hid ((((HFV.out.trans (if_neg h1)).trans (if_neg h2)).trans (if_neg (by rw [if_pos h4]; exact h3))).trans (if_neg h5))
                clear HFV
                go_wp2_with fail
                go_ret
                exact ⟨ret_int HR.out.symm, HB.out⟩
      · have e4 : (kd == 4) = false := by simpa using h4
        by_cases h1 : t < fr
        · have HR := Lib.hid (HFV.out.trans (if_pos h1))
          clear HFV
          go_wp2_with fail
          go_ret
          exact ⟨ret_int HR.out.symm, HB.out⟩
        · by_cases h2 : t2 ≤ t
          · have HR := Lib.hid ((HFV.out.trans (if_neg h1)).trans (if_pos h2))
            clear HFV
            go_wp2_with fail
            go_ret
            exact ⟨ret_int HR.out.symm, HB.out⟩
          · by_cases h3 : A = 0
            · have e3 : (A == 0) = true := by simp [h3]
              have HR := Lib.hid (((HFV.out.trans (if_neg h1)).trans (if_neg h2)).trans (if_pos (by rw [if_neg h4]; exact h3)))
              clear HFV
              go_wp2_with fail
              go_ret
              exact ⟨ret_int HR.out.symm, HB.out⟩
            · have e3 : (A == 0) = false := by simpa using h3
              by_cases h5 : A < le
              · have HR := Lib.hid ((((HFV.out.trans (if_neg h1)).trans (if_neg h2)).trans (if_neg (by rw [if_neg h4]; exact h3))).trans (if_pos h5))
                clear HFV
                go_wp2_with fail
                go_ret
                exact ⟨ret_int HR.out.symm, HB.out⟩
              · have HR := Lib.hid ((((HFV.out.trans (if_neg h1)).trans (if_neg h2)).trans (if_neg (by rw [if_neg h4]; exact h3))).trans (if_neg h5))
                clear HFV
                go_wp2_with fail
                go_ret
                exact ⟨ret_int HR.out.symm, HB.out⟩
end Go.Proofs.YtdefjnefkdemiaaGreatDoor
/- Offers that can be used together: offer.together, handref1.TogetherOf (printed by gen_tog.py). -/
set_option linter.unusedVariables false
namespace Go.Proofs.YtdefjnefkdemiaaGreatDoor
open Go.RowKit Go.Maps

/-- seen[s], the equation of the run -/
theorem Seen.look {w : World} {b n : Nat} {l : List ByteArray} (h : Seen w b n l) (s : ByteArray) (hs : s.size ≤ maxLen) :
    (Instr.lookup 87 (.map (some b)) (.string s) false).run Tryz.prog w = .ok (.bool (hasS l s)) w := by
  obtain ⟨D, hown, _, hat⟩ := h
  obtain ⟨v, ps, hrun, hv⟩ := hown.lookup key_str Tryz.underlying87 (zero_bool w) (plainElem_bool Tryz.underlying4 false) (WideMaps.keyOf_string_mk Tryz.underlying9 hs)
  obtain ⟨c, rfl, hc⟩ := plainElem_bool_inv Tryz.underlying4 hv
  simp only [Prod.mk.injEq] at hc
  rw [← lit_bool_inj ((hat s).symm.trans hc.1)] at hrun
  exact hrun

set_option maxRecDepth 100000 in
set_option maxHeartbeats 8000000 in
theorem together_any (a : Option Addr) (l : List Of) (n c : Nat) (w : World) (hn : l.length = n) (hn1 : n ≤ 40) (hc : n ≤ c) (hc' : c ≤ maxLen) (hI : RAt w a 12 Of.cells l) (hok : ∀ x ∈ l, x.ok) :
    Calls Tryz.prog 28 #[.slice a n c] w fun e w' => e = .returned (.bool (togB l)) ∧ Below w.heap.size w w' := by
  unfold maxLen at hc'
  have HN := Lib.hid hn
  have HI := Lib.hid hI
  have HOK := Lib.hid hok
  have HS0 := Lib.hid (Seen.made w)
  have HB0 := Lib.hid ((Below.refl w.heap.size w).alloc (Nat.le_refl _) (.map #[] 0))
  have hmm := @run_makeMap Tryz.prog
  clear hn hI hok
  go_enter Tryz.func28, Tryz.ntmps28
  go_wp2_with fail
  go_loopw [5, 9] (fun _ i wr => ∃ k : Nat, k ≤ n ∧ i = .int .i64 k ∧ Below w.heap.size w wr ∧ Seen wr w.heap.size k ((l.take k).map Of.group) ∧ TogInv l k) (fun _ i _ => n - (intOf i).toNat)
  case atStart => exact ⟨0, Nat.zero_le _, rfl, HB0.out, HS0.out, TogInv.zero l⟩
  case round =>
    obtain ⟨k, hk, rfl, hB, hS, hV⟩ := hrel
    have HS := Lib.hid hS
    have HB := Lib.hid hB
    clear hS HS0 HB0
    by_cases hlt : k < n
    · have hkl : k < l.length := by have := HN.out; omega
      obtain ⟨p, off, rfl, hp, c0, c1, c2, c3, c4, c5, c6, c7, c8, c9, c10, c11⟩ := (HI.out.below hB).at12 hkl (v0 := .string l[k].key) (v1 := .int .i64 l[k].kind) (v2 := .int .i64 l[k].a) (v3 := .int .i64 l[k].b) (v4 := .slice l[k].tv l[k].tags.length l[k].tc) (v5 := .int .i64 l[k].least) (v6 := .int .i64 l[k].most) (v7 := .string l[k].group) (v8 := .bool l[k].alone) (v9 := .int .i64 l[k].order) (v10 := .int .i64 l[k].from_) (v11 := .int .i64 l[k].to_) rfl
      have hgs := (HOK.out l[k] (List.getElem_mem hkl)).2.2.2.2.2.2.2.2.2.2.2.2.2.1
      have HV := Lib.hid (hV.step hkl)
      have HE := Lib.hid (show tgS l.length (l.take k) l[k] = ((l[k].alone && decide (1 < l.length)) || (!decide (l[k].group.size = 0) && hasS ((l.take k).map Of.group) l[k].group)) from rfl)
      have HTK := Lib.hid (show (l.take (k + 1)).map Of.group = (l.take k).map Of.group ++ [l[k].group] by rw [List.take_succ_eq_append_getElem hkl, List.map_append]; rfl)
      rw [HN.out] at HE HV
      generalize tgS n (l.take k) l[k] = T at *
      generalize l[k] = x at *
      obtain ⟨key, kd, ia, ib, tv, tc, tags, le, mo, gr, al, od, fr, t2⟩ := x
      simp only at c0 c1 c2 c3 c4 c5 c6 c7 c8 c9 c10 c11 hgs HE HTK
      generalize tags.length = tn at *
      have HBa := Lib.hid (HB.out.alloc HB.out.size (.cells #[.string key, .int .i64 kd, .int .i64 ia, .int .i64 ib, .slice tv tn tc, .int .i64 le, .int .i64 mo, .string gr, .bool al, .int .i64 od, .int .i64 fr, .int .i64 t2] 37))
      have HSa := Lib.hid (HS.out.alloc (.cells #[.string key, .int .i64 kd, .int .i64 ia, .int .i64 ib, .slice tv tn tc, .int .i64 le, .int .i64 mo, .string gr, .bool al, .int .i64 od, .int .i64 fr, .int .i64 t2] 37))
      have X0 := Lib.hid (XB.new wr [.string key, .int .i64 kd, .int .i64 ia, .int .i64 ib, .slice tv tn tc, .int .i64 le, .int .i64 mo, .string gr, .bool al, .int .i64 od, .int .i64 fr, .int .i64 t2] 37)
      simp only [List.toArray] at X0
      clear hV hB HB HS
      go_upto_region 5 with (fail)
      generalize wr.alloc (.cells #[.string key, .int .i64 kd, .int .i64 ia, .int .i64 ib, .slice tv tn tc, .int .i64 le, .int .i64 mo, .string gr, .bool al, .int .i64 od, .int .i64 fr, .int .i64 t2] 37) = w2 at *
      generalize hqb : wr.heap.size = qb at *
      clear c0 c1 c2 c3 c4 c5 c6 c7 c8 c9 c10 c11 hp
      obtain ⟨x0, x1, x2, x3, x4, x5, x6, x7, x8, x9, x10, x11⟩ := X0.out.at12
      have hq := X0.out.1
      have hlk := HSa.out.look gr (by unfold maxLen; omega)
      generalize hss : (l.take k).map Of.group = gs at *
      obtain ⟨hb, hhb⟩ : ∃ b, hasS gs gr = b := ⟨_, rfl⟩
      rw [hhb] at hlk HE
      clear hss hhb
      obtain ⟨ge, hge⟩ : ∃ b, gr.toList.isEmpty = b := ⟨_, rfl⟩
      rw [show decide (gr.size = 0) = ge by rw [← hge, ofIsEmpty]] at HE
      cases al with
      | true =>
        by_cases h1 : 1 < n
        · have h2 : (1 : Int) < (n : Int) := by omega
          have HR := Lib.hid (HV.out.1 (by rw [HE.out]; simp [h1]))
          clear HE HV
          go_wp2_with fail
          go_ret
          exact ⟨ret_bool HR.out.symm, HBa.out⟩
        · have h2 : ¬ (1 : Int) < (n : Int) := by omega
          cases ge with
          | true =>
            have HR := Lib.hid (HV.out.2 (by rw [HE.out]; simp [h1]))
            clear HE HV
            go_wp2_with (at_mapUpdate; refine wpList_update_seen _ rfl _ _ _ rfl _ _ _ rfl HSa.out (by unfold maxLen; omega) _ rfl rfl (by unfold maxLen; omega) ?_)
            intro w3 hS3 hg3
            rw [← HTK.out] at hS3
            have HS3 := Lib.hid hS3
            have HB3 := Lib.hid (HBa.out.grown hg3 (HBa.out.size) (fun q hq => by injection hq with hq; omega))
            clear hS3 hg3
            go_wp2_with fail
            go_roundw
            case rel => exact ⟨k + 1, by omega, by go_num, HB3.out, HS3.out, HR.out⟩
            case measure => simp [intOf]; omega
          | false =>
            cases hb with
            | true =>
              have HR := Lib.hid (HV.out.1 (by rw [HE.out]; simp [h1]))
              clear HE HV
              go_wp2_with fail
              go_ret
              exact ⟨ret_bool HR.out.symm, HBa.out⟩
            | false =>
              have HR := Lib.hid (HV.out.2 (by rw [HE.out]; simp [h1]))
              clear HE HV
              go_wp2_with (at_mapUpdate; refine wpList_update_seen _ rfl _ _ _ rfl _ _ _ rfl HSa.out (by unfold maxLen; omega) _ rfl rfl (by unfold maxLen; omega) ?_)
              intro w3 hS3 hg3
              rw [← HTK.out] at hS3
              have HS3 := Lib.hid hS3
              have HB3 := Lib.hid (HBa.out.grown hg3 (HBa.out.size) (fun q hq => by injection hq with hq; omega))
              clear hS3 hg3
              go_wp2_with fail
              go_roundw
              case rel => exact ⟨k + 1, by omega, by go_num, HB3.out, HS3.out, HR.out⟩
              case measure => simp [intOf]; omega
      | false =>
        cases ge with
        | true =>
          have HR := Lib.hid (HV.out.2 (by rw [HE.out]; simp ))
          clear HE HV
          go_wp2_with (at_mapUpdate; refine wpList_update_seen _ rfl _ _ _ rfl _ _ _ rfl HSa.out (by unfold maxLen; omega) _ rfl rfl (by unfold maxLen; omega) ?_)
          intro w3 hS3 hg3
          rw [← HTK.out] at hS3
          have HS3 := Lib.hid hS3
          have HB3 := Lib.hid (HBa.out.grown hg3 (HBa.out.size) (fun q hq => by injection hq with hq; omega))
          clear hS3 hg3
          go_wp2_with fail
          go_roundw
          case rel => exact ⟨k + 1, by omega, by go_num, HB3.out, HS3.out, HR.out⟩
          case measure => simp [intOf]; omega
        | false =>
          cases hb with
          | true =>
            have HR := Lib.hid (HV.out.1 (by rw [HE.out]; simp ))
            clear HE HV
            go_wp2_with fail
            go_ret
            exact ⟨ret_bool HR.out.symm, HBa.out⟩
          | false =>
            have HR := Lib.hid (HV.out.2 (by rw [HE.out]; simp ))
            clear HE HV
            go_wp2_with (at_mapUpdate; refine wpList_update_seen _ rfl _ _ _ rfl _ _ _ rfl HSa.out (by unfold maxLen; omega) _ rfl rfl (by unfold maxLen; omega) ?_)
            intro w3 hS3 hg3
            rw [← HTK.out] at hS3
            have HS3 := Lib.hid hS3
            have HB3 := Lib.hid (HBa.out.grown hg3 (HBa.out.size) (fun q hq => by injection hq with hq; omega))
            clear hS3 hg3
            go_wp2_with fail
            go_roundw
            case rel => exact ⟨k + 1, by omega, by go_num, HB3.out, HS3.out, HR.out⟩
            case measure => simp [intOf]; omega
    · have HD := Lib.hid (hV.done (by have := HN.out; omega))
      clear hV hB
      go_wp2_with fail
      go_ret
      exact ⟨ret_bool HD.out.symm, HB.out⟩

set_option maxRecDepth 100000 in
set_option maxHeartbeats 16000000 in
theorem TogetherOf_any (a : Option Addr) (l : List Of) (n c : Nat) (w : World) (hn : l.length = n) (hn1 : n ≤ 40) (hc : n ≤ c) (hc' : c ≤ maxLen) (hI : RAt w a 12 Of.cells l) :
    Calls Tryz.prog 36 #[.slice a n c] w fun e w' => e = .returned (.bool (togB l)) ∧ Below w.heap.size w w' := by
  unfold maxLen at hc'
  have HN := Lib.hid hn
  have HI := Lib.hid hI
  clear hn hI
  go_enter Tryz.func36, Tryz.ntmps36
  go_wp2_with fail
  go_loopw [3, 4, 6, 9] (fun _ _ _ i wr => ∃ k : Nat, k ≤ n ∧ i = .int .i64 k ∧ Below w.heap.size w wr ∧ RefInv l k) (fun _ _ _ i _ => n - (intOf i).toNat)
  case atStart => exact ⟨0, Nat.zero_le _, rfl, Below.refl _ _, RefInv.zero l⟩
  case round =>
    obtain ⟨k, hk, rfl, hB, hV⟩ := hrel
    have HB := Lib.hid hB
    by_cases hlt : k < n
    · have hkl : k < l.length := by have := HN.out; omega
      have HIr := HI.out.below hB
      obtain ⟨p, off, rfl, hp, c0, c1, c2, c3, c4, c5, c6, c7, c8, c9, c10, c11⟩ := HIr.at12 hkl (v0 := .string l[k].key) (v1 := .int .i64 l[k].kind) (v2 := .int .i64 l[k].a) (v3 := .int .i64 l[k].b) (v4 := .slice l[k].tv l[k].tags.length l[k].tc) (v5 := .int .i64 l[k].least) (v6 := .int .i64 l[k].most) (v7 := .string l[k].group) (v8 := .bool l[k].alone) (v9 := .int .i64 l[k].order) (v10 := .int .i64 l[k].from_) (v11 := .int .i64 l[k].to_) rfl
      have HV := Lib.hid (hV.step hkl)
      obtain ⟨T, hT⟩ : ∃ T, ((l.take k).any fun y => prB l[k] y) = T := ⟨_, rfl⟩
      rw [hT] at HV
      have HT0 := Lib.hid (show T = ((l.take k).drop 0).any fun y => prB l[k] y by rw [List.drop_zero, hT])
      have HPR := Lib.hid (fun y => show prB l[k] y = (l[k].alone || y.alone || (!decide (l[k].group.size = 0) && decide (y.group.data.toList = l[k].group.data.toList))) from rfl)
      have HAD := Lib.hid (fun j (h : j < (l.take k).length) => any_drop (l.take k) (fun y => prB l[k] y) j h)
      generalize hP : (fun y => prB l[k] y) = P at *
      have hP' : ∀ y, prB l[k] y = P y := fun y => by rw [← hP]
      simp only [hP'] at HPR HAD
      clear hT hP hP'
      generalize l[k] = x at *
      obtain ⟨key, kd, ia, ib, tv, tc, tags, le, mo, gr, al, od, fr, t2⟩ := x
      simp only at c0 c1 c2 c3 c4 c5 c6 c7 c8 c9 c10 c11 HPR
      generalize tags.length = tn at *
      have HBa := Lib.hid (HB.out.alloc HB.out.size (.cells #[.string key, .int .i64 kd, .int .i64 ia, .int .i64 ib, .slice tv tn tc, .int .i64 le, .int .i64 mo, .string gr, .bool al, .int .i64 od, .int .i64 fr, .int .i64 t2] 37))
      have X0 := Lib.hid (XB.new wr [.string key, .int .i64 kd, .int .i64 ia, .int .i64 ib, .slice tv tn tc, .int .i64 le, .int .i64 mo, .string gr, .bool al, .int .i64 od, .int .i64 fr, .int .i64 t2] 37)
      simp only [List.toArray] at X0
      clear hV hB HB HIr
      go_upto_region 4 with (fail)
      generalize wr.alloc (.cells #[.string key, .int .i64 kd, .int .i64 ia, .int .i64 ib, .slice tv tn tc, .int .i64 le, .int .i64 mo, .string gr, .bool al, .int .i64 od, .int .i64 fr, .int .i64 t2] 37) = w2 at *
      generalize hqb : wr.heap.size = qb at *
      clear c0 c1 c2 c3 c4 c5 c6 c7 c8 c9 c10 c11 hp
      go_wp2_with fail
      · skip
        go_loopw [6, 18] (fun _ i wr => ∃ j : Nat, j ≤ k ∧ i = .int .i64 j ∧ Below w.heap.size w wr ∧ XB wr qb [.string key, .int .i64 kd, .int .i64 ia, .int .i64 ib, .slice tv tn tc, .int .i64 le, .int .i64 mo, .string gr, .bool al, .int .i64 od, .int .i64 fr, .int .i64 t2] ∧ Hid (T = ((l.take k).drop j).any P)) (fun _ i _ => k - (intOf i).toNat)
        case atStart => exact ⟨0, Nat.zero_le _, rfl, HBa.out, X0.out, HT0⟩
        case round =>
          obtain ⟨j, hj, rfl, hB, hX, hT⟩ := hrel
          have HX := Lib.hid hX
          have HB := Lib.hid hB
          clear HT0 HBa X0 hX
          by_cases hlj : j < k
          · have hjl : j < (l.take k).length := by simp; omega
            obtain ⟨p', off', hpe, hp, c0, c1, c2, c3, c4, c5, c6, c7, c8, c9, c10, c11⟩ := ((HI.out.below hB).take k).at12 hjl (v0 := .string (l.take k)[j].key) (v1 := .int .i64 (l.take k)[j].kind) (v2 := .int .i64 (l.take k)[j].a) (v3 := .int .i64 (l.take k)[j].b) (v4 := .slice (l.take k)[j].tv (l.take k)[j].tags.length (l.take k)[j].tc) (v5 := .int .i64 (l.take k)[j].least) (v6 := .int .i64 (l.take k)[j].most) (v7 := .string (l.take k)[j].group) (v8 := .bool (l.take k)[j].alone) (v9 := .int .i64 (l.take k)[j].order) (v10 := .int .i64 (l.take k)[j].from_) (v11 := .int .i64 (l.take k)[j].to_) rfl
            injection hpe with hpe
            injection hpe with hp1 hp2
            subst hp1 hp2
            have HD := Lib.hid (hT.out.trans (HAD.out j hjl))
            have HPx := Lib.hid (HPR.out (l.take k)[j])
            generalize P (l.take k)[j] = b at *
            generalize (l.take k)[j] = y at *
            obtain ⟨key2, kd2, ia2, ib2, tv2, tc2, tags2, le2, mo2, gr2, al2, od2, fr2, t22⟩ := y
            simp only at c0 c1 c2 c3 c4 c5 c6 c7 c8 c9 c10 c11 HPx
            generalize tags2.length = tn2 at *
            have HBb := Lib.hid (HB.out.alloc HB.out.size (.cells #[.string key2, .int .i64 kd2, .int .i64 ia2, .int .i64 ib2, .slice tv2 tn2 tc2, .int .i64 le2, .int .i64 mo2, .string gr2, .bool al2, .int .i64 od2, .int .i64 fr2, .int .i64 t22] 37))
            have Y0 := Lib.hid (XB.new wr [.string key2, .int .i64 kd2, .int .i64 ia2, .int .i64 ib2, .slice tv2 tn2 tc2, .int .i64 le2, .int .i64 mo2, .string gr2, .bool al2, .int .i64 od2, .int .i64 fr2, .int .i64 t22] 37)
            have HXb := Lib.hid (HX.out.alloc (.cells #[.string key2, .int .i64 kd2, .int .i64 ia2, .int .i64 ib2, .slice tv2 tn2 tc2, .int .i64 le2, .int .i64 mo2, .string gr2, .bool al2, .int .i64 od2, .int .i64 fr2, .int .i64 t22] 37))
            simp only [List.toArray] at Y0
            clear hT hB HB HX HPR HAD
            go_upto_region 7 with (fail)
            generalize wr.alloc (.cells #[.string key2, .int .i64 kd2, .int .i64 ia2, .int .i64 ib2, .slice tv2 tn2 tc2, .int .i64 le2, .int .i64 mo2, .string gr2, .bool al2, .int .i64 od2, .int .i64 fr2, .int .i64 t22] 37) = w3 at *
            generalize hqc : wr.heap.size = qc at *
            clear c0 c1 c2 c3 c4 c5 c6 c7 c8 c9 c10 c11 hp
            obtain ⟨x0, x1, x2, x3, x4, x5, x6, x7, x8, x9, x10, x11⟩ := HXb.out.at12
            obtain ⟨y0, y1, y2, y3, y4, y5, y6, y7, y8, y9, y10, y11⟩ := Y0.out.at12
            have hxl := HXb.out.1
            have hyl := Y0.out.1
            obtain ⟨ge, hge⟩ : ∃ b, gr.toList.isEmpty = b := ⟨_, rfl⟩
            rw [show decide (gr.size = 0) = ge by rw [← hge, ofIsEmpty]] at HPx
            obtain ⟨qe, hqe⟩ : ∃ b, (gr.toList == gr2.toList) = b := ⟨_, rfl⟩
            rw [show decide (gr2.data.toList = gr.data.toList) = qe by rw [← hqe, Lib.toList_data, Lib.toList_data, Bool.eq_iff_iff, beq_iff_eq, decide_eq_true_eq]; exact eq_comm] at HPx
            cases al with
            | true =>
              have HR := Lib.hid (HV.out.1 (HD.out.trans (by rw [HPx.out]; simp [])))
              clear HD HV HPx
              go_wp2_with fail
              go_ret
              exact ⟨ret_bool HR.out.symm, HBb.out⟩
            | false =>
              cases al2 with
              | true =>
                have HR := Lib.hid (HV.out.1 (HD.out.trans (by rw [HPx.out]; simp [])))
                clear HD HV HPx
                go_wp2_with fail
                go_ret
                exact ⟨ret_bool HR.out.symm, HBb.out⟩
              | false =>
                cases ge with
                | true =>
                  have HR := Lib.hid (show Hid (T = ((l.take k).drop (j + 1)).any P) from Lib.hid (HD.out.trans (by rw [HPx.out]; simp [])))
                  clear HD HPx
                  go_wp2_with fail
                  go_roundw
                  case rel => exact ⟨j + 1, by omega, by go_num, HBb.out, HXb.out, HR.out⟩
                  case measure => simp [intOf]; omega
                | false =>
                  cases qe with
                  | true =>
                    have HR := Lib.hid (HV.out.1 (HD.out.trans (by rw [HPx.out]; simp [])))
                    clear HD HV HPx
                    go_wp2_with fail
                    go_ret
                    exact ⟨ret_bool HR.out.symm, HBb.out⟩
                  | false =>
                    have HR := Lib.hid (show Hid (T = ((l.take k).drop (j + 1)).any P) from Lib.hid (HD.out.trans (by rw [HPx.out]; simp [])))
                    clear HD HPx
                    go_wp2_with fail
                    go_roundw
                    case rel => exact ⟨j + 1, by omega, by go_num, HBb.out, HXb.out, HR.out⟩
                    case measure => simp [intOf]; omega
          · have HE := Lib.hid (show T = false by rw [hT.out, List.drop_eq_nil_of_le (by simp; omega)]; rfl)
            have HI1 := Lib.hid (HV.out.2 HE.out)
            clear hT HV
            go_wp2_with fail
            go_roundw
            case rel => exact ⟨k + 1, by omega, by go_num, HB.out, HI1.out⟩
            case measure => simp [intOf]; omega
    · have HD := Lib.hid (hV.done (by have := HN.out; omega))
      clear hV hB
      go_wp2_with fail
      go_ret
      exact ⟨ret_bool HD.out.symm, HB.out⟩
end Go.Proofs.YtdefjnefkdemiaaGreatDoor
/- handref1.FitsOf at offers and baskets that nobody has checked (printed by gen_fitsg.py). -/
set_option linter.unusedVariables false
namespace Go.Proofs.YtdefjnefkdemiaaGreatDoor
open Go.RowKit

theorem itG_bd {x : It} (h : x.ok) : -100000000 ≤ x.cents ∧ x.cents ≤ 100000000 ∧ -1000 ≤ x.many ∧ x.many ≤ 1000 := ⟨h.2.1, h.2.2.1, h.2.2.2.1, h.2.2.2.2.1⟩
theorem mul_bd (a b m n : Int) (h0 : -m ≤ a) (h1 : a ≤ m) (h2 : -n ≤ b) (h3 : b ≤ n) : -(m * n) ≤ a * b ∧ a * b ≤ m * n := by
  have k1 : a * b ≤ (a * b).natAbs := Int.le_natAbs
  have k2 : -((a * b).natAbs : Int) ≤ a * b := by omega
  have k3 : (a * b).natAbs = a.natAbs * b.natAbs := Int.natAbs_mul a b
  have k4 : a.natAbs * b.natAbs ≤ m.toNat * n.toNat := Nat.mul_le_mul (by omega) (by omega)
  have hm : ((m.toNat : Nat) : Int) = m := by omega
  have hn : ((n.toNat : Nat) : Int) = n := by omega
  have k5 : ((a.natAbs * b.natAbs : Nat) : Int) ≤ m * n := by
    rw [← hm, ← hn, ← Int.natCast_mul]; exact Int.ofNat_le.2 k4
  omega
theorem itG_mul {x : It} (h : x.ok) : -100000000000 ≤ x.cents * x.many ∧ x.cents * x.many ≤ 100000000000 := by
  obtain ⟨h0, h1, h2, h3⟩ := itG_bd h
  have := mul_bd x.cents x.many 100000000 1000 (by omega) h1 (by omega) h3
  omega
theorem fitG_bd (f : It → Bool) (l : List It) (h : ∀ x ∈ l, x.ok) : -(100000000000 * (l.length : Int)) ≤ fitS f l ∧ fitS f l ≤ 100000000000 * (l.length : Int) := by
  induction l with
  | nil => simp [fitS]
  | cons x l ih =>
    have h1 := itG_mul (h x (by simp))
    have h2 := ih fun y hy => h y (by simp [hy])
    simp only [fitS, List.length_cons]
    split <;> omega

set_option maxRecDepth 100000 in
set_option maxHeartbeats 8000000 in
theorem fitsG_any (x : Of) (a : Option Addr) (l : List It) (n c : Nat) (ship t : Int) (w : World) (hn : l.length = n) (hn1 : n ≤ 50) (hc : n ≤ c) (hc' : c ≤ maxLen) (hI : RAt w a 4 It.cells l) (hTG : TagsAt It.tv It.tags w l) (hok : ∀ y ∈ l, y.ok)
    (hx : x.ok) (hxt : StrsAt w x.tv x.tags) :
    Calls Tryz.prog 12 #[.agg x.cells.toArray, .agg #[.slice a n c, .int .i64 ship], .int .i64 t] w fun e w' => e = .returned (.int .i64 (fitV x l ship t)) ∧ Below w.heap.size w w' := by
  unfold maxLen at hc'
  have HN := Lib.hid hn
  have HI := Lib.hid hI
  have HIB := Lib.hid hok
  have HF0 := Lib.hid (show fitS (fun y => mtB x y) (l.take 0) = 0 by rw [List.take_zero]; rfl)
  have HFL := Lib.hid (show fitS (fun y => mtB x y) (l.take n) = fitA x l by rw [← hn, List.take_length]; rfl)
  have HFV := Lib.hid (show fitV x l ship t = if t < x.from_ then 1 else if x.to_ ≤ t then 2 else if (if x.kind = 4 then ship = 0 else fitA x l = 0) then 3 else if fitA x l < x.least then 4 else 0 from rfl)
  have HM := Lib.hid (fun y w' (h1 : y ∈ l) (hbl : Below w.heap.size w w') => matchesR_any x y w' (by have := hx.2.2.2.2.2.2.2.1; omega) (by have := (hok y h1).2.2.2.2.2.1; omega) (hxt.below hbl) ((hTG y h1).below hbl))
  have HOK := Lib.hid (show -2000000000000 ≤ x.least ∧ x.least ≤ 2000000000000 from ⟨hx.2.2.2.2.2.2.2.2.2.1, hx.2.2.2.2.2.2.2.2.2.2.1⟩)
  have HFS := Lib.hid (fun k (h : k < l.length) => fitS_succ (fun y => mtB x y) l k h)
  have HBD := Lib.hid (fun k (h : k ≤ n) => show -5000000000000 ≤ fitS (fun y => mtB x y) (l.take k) ∧ fitS (fun y => mtB x y) (l.take k) ≤ 5000000000000 from by
    have h1 := fitG_bd (fun y => mtB x y) (l.take k) (fun y hy => hok y (List.mem_of_mem_take hy))
    have h2 : (l.take k).length ≤ 50 := by rw [List.length_take]; omega
    omega)
  generalize fitV x l ship t = V at *
  generalize fitA x l = A at *
  obtain ⟨k0, kd, ia, ib, tv, tc, tags, le, mo, gr, al, od, fr, t2⟩ := x
  simp only at HF0 HFL HFV HM HOK HFS HBD ⊢
  generalize hf : (fun y => mtB ⟨k0, kd, ia, ib, tv, tc, tags, le, mo, gr, al, od, fr, t2⟩ y) = f at *
  have hf' : ∀ y, mtB ⟨k0, kd, ia, ib, tv, tc, tags, le, mo, gr, al, od, fr, t2⟩ y = f y := fun y => by rw [← hf]
  simp only [hf'] at HM HFS
  have HB0 := Lib.hid (((Below.refl w.heap.size w).alloc (Nat.le_refl _) (.cells #[.string k0, .int .i64 kd, .int .i64 ia, .int .i64 ib, .slice tv tags.length tc, .int .i64 le, .int .i64 mo, .string gr, .bool al, .int .i64 od, .int .i64 fr, .int .i64 t2] 37)).alloc (by simp) (.cells #[.slice a n c, .int .i64 ship] 30))
  have HX0 := Lib.hid ((XB.new w [.string k0, .int .i64 kd, .int .i64 ia, .int .i64 ib, .slice tv tags.length tc, .int .i64 le, .int .i64 mo, .string gr, .bool al, .int .i64 od, .int .i64 fr, .int .i64 t2] 37).alloc (.cells #[.slice a n c, .int .i64 ship] 30))
  have HY0 := Lib.hid (XB.new (w.alloc (.cells #[.string k0, .int .i64 kd, .int .i64 ia, .int .i64 ib, .slice tv tags.length tc, .int .i64 le, .int .i64 mo, .string gr, .bool al, .int .i64 od, .int .i64 fr, .int .i64 t2] 37)) [.slice a n c, .int .i64 ship] 30)
  simp only [List.toArray] at HX0 HY0
  have hz : (w.alloc (.cells #[.string k0, .int .i64 kd, .int .i64 ia, .int .i64 ib, .slice tv tags.length tc, .int .i64 le, .int .i64 mo, .string gr, .bool al, .int .i64 od, .int .i64 fr, .int .i64 t2] 37)).heap.size = w.heap.size + 1 := by simp
  rw [hz] at HY0
  clear hn hI hTG hok hx hxt hf hf' hz
  rw [show (Of.cells ⟨k0, kd, ia, ib, tv, tc, tags, le, mo, gr, al, od, fr, t2⟩).toArray = #[.string k0, .int .i64 kd, .int .i64 ia, .int .i64 ib, .slice tv tags.length tc, .int .i64 le, .int .i64 mo, .string gr, .bool al, .int .i64 od, .int .i64 fr, .int .i64 t2] from rfl]
  go_enter Tryz.func12, Tryz.ntmps12
  go_upto_region 1 with (fail)
  generalize (w.alloc (.cells #[.string k0, .int .i64 kd, .int .i64 ia, .int .i64 ib, .slice tv tags.length tc, .int .i64 le, .int .i64 mo, .string gr, .bool al, .int .i64 od, .int .i64 fr, .int .i64 t2] 37)).alloc (.cells #[.slice a n c, .int .i64 ship] 30) = w1 at *
  obtain ⟨z0, z1⟩ := HY0.out.at2
  have hzl := HY0.out.1
  go_wp2_with fail
  clear z0 z1 hzl
  go_loopw [7, 9, 14] (fun s _ i wr => ∃ k : Nat, k ≤ n ∧ i = .int .i64 k ∧ s = .int .i64 (fitS f (l.take k)) ∧ Below w.heap.size w wr ∧ XB wr w.heap.size [.string k0, .int .i64 kd, .int .i64 ia, .int .i64 ib, .slice tv tags.length tc, .int .i64 le, .int .i64 mo, .string gr, .bool al, .int .i64 od, .int .i64 fr, .int .i64 t2] ∧ XB wr (w.heap.size + 1) [.slice a n c, .int .i64 ship]) (fun _ _ i _ => n - (intOf i).toNat)
  case atStart => exact ⟨0, Nat.zero_le _, rfl, congrArg (Value.int .i64) HF0.out.symm, HB0.out, HX0.out, HY0.out⟩
  case round =>
    obtain ⟨k, hk, rfl, rfl, hB, hX, hY⟩ := hrel
    have HX := Lib.hid hX
    have HY := Lib.hid hY
    have HB := Lib.hid hB
    obtain ⟨bd0, bd1⟩ := HBD.out k hk
    clear hX hY HX0 HY0 HB0
    by_cases hlt : k < n
    · have hkl : k < l.length := by have := HN.out; omega
      obtain ⟨p, off, rfl, hp, c0, c1, c2, c3⟩ := (HI.out.below hB).at4 hkl (v0 := .string l[k].key) (v1 := .int .i64 l[k].cents) (v2 := .int .i64 l[k].many) (v3 := .slice l[k].tv l[k].tags.length l[k].tc) rfl
      have HS := Lib.hid (HFS.out k hkl)
      have C := Lib.hid (fun w' hbl => HM.out l[k] w' (List.getElem_mem hkl) hbl)
      obtain ⟨m0, m1⟩ := itG_mul (HIB.out l[k] (List.getElem_mem hkl))
      obtain ⟨q0, q1, q2, q3⟩ := itG_bd (HIB.out l[k] (List.getElem_mem hkl))
      generalize fitS f (l.take k) = s0 at *
      generalize f l[k] = m at *
      generalize l[k] = y at *
      obtain ⟨yk, yc, ym, yv, ytc, yt⟩ := y
      simp only at c0 c1 c2 c3 HS C m0 m1 q0 q1 q2 q3
      have HBa := Lib.hid (HB.out.alloc HB.out.size (.cells #[.string yk, .int .i64 yc, .int .i64 ym, .slice yv yt.length ytc] 60))
      have X0 := Lib.hid (XB.new wr [.string yk, .int .i64 yc, .int .i64 ym, .slice yv yt.length ytc] 60)
      have HXa := Lib.hid (HX.out.alloc (.cells #[.string yk, .int .i64 yc, .int .i64 ym, .slice yv yt.length ytc] 60))
      have HYa := Lib.hid (HY.out.alloc (.cells #[.string yk, .int .i64 yc, .int .i64 ym, .slice yv yt.length ytc] 60))
      simp only [List.toArray] at X0
      clear hB HX HY HB HFS HM
      go_upto_region 5 with (fail)
      generalize wr.alloc (.cells #[.string yk, .int .i64 yc, .int .i64 ym, .slice yv yt.length ytc] 60) = w2 at *
      generalize hqb : wr.heap.size = qb at *
      clear c0 c1 c2 c3 hp
      obtain ⟨x0, x1, x2, x3, x4, x5, x6, x7, x8, x9, x10, x11⟩ := HXa.out.at12
      have hxl := HXa.out.1
      obtain ⟨y0, y1, y2, y3⟩ := X0.out.at4
      have hyl := X0.out.1
      go_wp2_with fail
      with_reducible refine (C.out _ HBa.out).mono ?_
      rintro e w3 ⟨rfl, d3⟩
      have HB3 := Lib.hid (HBa.out.trans (d3.mono HBa.out.size))
      have HXb := Lib.hid (HXa.out.below d3)
      have HYb := Lib.hid (HYa.out.below d3)
      have X3 := Lib.hid (X0.out.below d3)
      clear x0 x1 x2 x3 x4 x5 x6 x7 x8 x9 x10 x11 hxl y0 y1 y2 y3 hyl d3 HBa HXa HYa X0
      obtain ⟨y0, y1, y2, y3⟩ := X3.out.at4
      have hyl := X3.out.1
      cases m with
      | true =>
        go_wp2_with fail
        go_roundw
        case rel => exact ⟨k + 1, by omega, by go_num, congrArg (Value.int .i64) (show s0 + yc * ym = fitS f (l.take (k + 1)) by rw [HS.out]; simp), HB3.out, HXb.out, HYb.out⟩
        case measure => simp [intOf]; omega
      | false =>
        go_wp2_with fail
        go_roundw
        case rel => exact ⟨k + 1, by omega, by go_num, congrArg (Value.int .i64) (show s0 = fitS f (l.take (k + 1)) by rw [HS.out]; simp), HB3.out, HXb.out, HYb.out⟩
        case measure => simp [intOf]; omega
    · have hkn : k = n := by omega
      subst hkn
      have HA := Lib.hid HFL.out
      rw [HFL.out] at bd0 bd1 ⊢
      obtain ⟨le0, le1⟩ := HOK.out
      obtain ⟨x0, x1, x2, x3, x4, x5, x6, x7, x8, x9, x10, x11⟩ := HX.out.at12
      obtain ⟨y0, y1⟩ := HY.out.at2
      have hxl := HX.out.1
      have hyl := HY.out.1
      clear hB HX HY HFL HFS HM HA HBD HOK HIB HI HN
      by_cases h4 : kd = 4
      · have e4 : (kd == 4) = true := by simp [h4]
        by_cases h1 : t < fr
        · have HR := Lib.hid (HFV.out.trans (if_pos h1))
          clear HFV
          go_wp2_with fail
          go_ret
          exact ⟨ret_int HR.out.symm, HB.out⟩
        · by_cases h2 : t2 ≤ t
          · have HR := Lib.hid ((HFV.out.trans (if_neg h1)).trans (if_pos h2))
            clear HFV
            go_wp2_with fail
            go_ret
            exact ⟨ret_int HR.out.symm, HB.out⟩
          · by_cases h3 : ship = 0
            · have e3 : (ship == 0) = true := by simp [h3]
              have HR := Lib.hid (((HFV.out.trans (if_neg h1)).trans (if_neg h2)).trans (if_pos (by rw [if_pos h4]; exact h3)))
              clear HFV
              go_wp2_with fail
              go_ret
              exact ⟨ret_int HR.out.symm, HB.out⟩
            · have e3 : (ship == 0) = false := by simpa using h3
              by_cases h5 : A < le
              · have HR := Lib.hid ((((HFV.out.trans (if_neg h1)).trans (if_neg h2)).trans (if_neg (by rw [if_pos h4]; exact h3))).trans (if_pos h5))
                clear HFV
                go_wp2_with fail
                go_ret
                exact ⟨ret_int HR.out.symm, HB.out⟩
              · have HR := Lib.hid ((((HFV.out.trans (if_neg h1)).trans (if_neg h2)).trans (if_neg (by rw [if_pos h4]; exact h3))).trans (if_neg h5))
                clear HFV
                go_wp2_with fail
                go_ret
                exact ⟨ret_int HR.out.symm, HB.out⟩
      · have e4 : (kd == 4) = false := by simpa using h4
        by_cases h1 : t < fr
        · have HR := Lib.hid (HFV.out.trans (if_pos h1))
          clear HFV
          go_wp2_with fail
          go_ret
          exact ⟨ret_int HR.out.symm, HB.out⟩
        · by_cases h2 : t2 ≤ t
          · have HR := Lib.hid ((HFV.out.trans (if_neg h1)).trans (if_pos h2))
            clear HFV
            go_wp2_with fail
            go_ret
            exact ⟨ret_int HR.out.symm, HB.out⟩
          · by_cases h3 : A = 0
            · have e3 : (A == 0) = true := by simp [h3]
              have HR := Lib.hid (((HFV.out.trans (if_neg h1)).trans (if_neg h2)).trans (if_pos (by rw [if_neg h4]; exact h3)))
              clear HFV
              go_wp2_with fail
              go_ret
              exact ⟨ret_int HR.out.symm, HB.out⟩
            · have e3 : (A == 0) = false := by simpa using h3
              by_cases h5 : A < le
              · have HR := Lib.hid ((((HFV.out.trans (if_neg h1)).trans (if_neg h2)).trans (if_neg (by rw [if_neg h4]; exact h3))).trans (if_pos h5))
                clear HFV
                go_wp2_with fail
                go_ret
                exact ⟨ret_int HR.out.symm, HB.out⟩
              · have HR := Lib.hid ((((HFV.out.trans (if_neg h1)).trans (if_neg h2)).trans (if_neg (by rw [if_neg h4]; exact h3))).trans (if_neg h5))
                clear HFV
                go_wp2_with fail
                go_ret
                exact ⟨ret_int HR.out.symm, HB.out⟩
end Go.Proofs.YtdefjnefkdemiaaGreatDoor
