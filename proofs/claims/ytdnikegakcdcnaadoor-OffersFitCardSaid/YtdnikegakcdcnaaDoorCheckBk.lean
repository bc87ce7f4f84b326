/- What is wrong with a basket: offer.CheckBasket, handref1.BasketFault (printed by gen_basket.py). -/
import Derived.Test.YtdnikegakcdcnaaDoorItIdx
import Derived.Test.YtdnikegakcdcnaaDoorTags
import Derived.Test.YtdnikegakcdcnaaDoorOffers
set_option linter.unusedVariables false
namespace Go.Proofs.YtdnikegakcdcnaaDoor
open Go.RowKit

theorem XB.at2 {w : World} {q : Nat} {v0 v1 : Value} (h : XB w q [v0, v1]) : w.cell? ⟨q, 0, none⟩ = some v0 ∧ w.cell? ⟨q, 1, none⟩ = some v1 := ⟨h.2 0 _ rfl, h.2 1 _ rfl⟩
theorem itB_no (x : It) (h : x.cents < 0 ∨ 10000000 < x.cents ∨ x.many < 1 ∨ 100 < x.many) : itB x = false := by
  unfold itB
  simp only [Bool.and_eq_false_iff, decide_eq_false_iff_not]
  omega
theorem itB_yes (x : It) (h0 : 0 ≤ x.cents) (h1 : x.cents ≤ 10000000) (h2 : 1 ≤ x.many) (h3 : x.many ≤ 100) : itB x = true := by
  unfold itB
  simp [h0, h1, h2, h3]
theorem bk_bad {l : List It} {ship E : Int} (h : itGo [] l = E) (h0 : E ≠ 0) : (if itGo [] l ≠ 0 then itGo [] l else if ship < 0 ∨ 1000000000000 < ship then 1 else 0) = E := by
  rw [h, if_pos h0]

set_option maxRecDepth 100000 in
set_option maxHeartbeats 8000000 in
theorem CheckBasket_any (a : Option Addr) (l : List It) (n c : Nat) (ship : Int) (w : World) (hn : l.length = n) (hn1 : n ≤ 50) (hc : n ≤ c) (hc' : c ≤ maxLen) (hI : RAt w a 4 It.cells l) (hTG : TagsAt It.tv It.tags w l) (hok : ∀ x ∈ l, x.ok) :
    Calls Tryd.prog 75 #[.agg #[.slice a n c, .int .i64 ship]] w fun e w' => e = .returned (.int .i64 (bkE l ship)) ∧ Below w.heap.size w w' := by
  unfold maxLen at hc'
  have HN := Lib.hid hn
  have HI := Lib.hid hI
  have HTG := Lib.hid hTG
  have HOK := Lib.hid hok
  obtain ⟨V, hV⟩ : ∃ V, bkE l ship = V := ⟨_, rfl⟩
  rw [hV]
  have HVE := Lib.hid hV.symm
  unfold bkE at HVE
  have HB0 := Lib.hid ((Below.refl w.heap.size w).alloc (Nat.le_refl _) (.cells #[.slice a n c, .int .i64 ship] 100))
  have HX0 := Lib.hid (XB.new w [.slice a n c, .int .i64 ship] 100)
  simp only [List.toArray] at HX0
  obtain ⟨z0, z1⟩ := HX0.out.at2
  have hzl := HX0.out.1
  clear hn hI hok hTG hV
  go_enter Tryd.func75, Tryd.ntmps75
  go_wp2_with fail
  clear z0 z1 hzl
  go_loopw [3, 4, 5, 13] (fun _ _ _ i wr => ∃ k : Nat, k ≤ n ∧ i = .int .i64 k ∧ Below w.heap.size w wr ∧ ItInv l k ∧ XB wr w.heap.size [.slice a n c, .int .i64 ship]) (fun _ _ _ i _ => n - (intOf i).toNat)
  case atStart => exact ⟨0, Nat.zero_le _, rfl, HB0.out, ItInv.zero l, HX0.out⟩
  case round =>
    obtain ⟨k, hk, rfl, hB, hV, hX⟩ := hrel
    have HXK := Lib.hid hX
    clear hX HX0 HB0
    by_cases hlt : k < n
    · have hkl : k < l.length := by have := HN.out; omega
      obtain ⟨p, off, rfl, hp, c0, c1, c2, c3⟩ := (HI.out.below hB).at4 hkl (v0 := .string l[k].key) (v1 := .int .i64 l[k].cents) (v2 := .int .i64 l[k].many) (v3 := .slice l[k].tv l[k].tags.length l[k].tc) rfl
      obtain ⟨ok1, ok2, ok3, ok4, ok5, ok6, ok7⟩ := HOK.out l[k] (List.getElem_mem hkl)
      have HOS := Lib.hid ok7
      have HV := Lib.hid (hV.step hkl)
      have HE := Lib.hid (show itstepE (l.take k) l[k] = itSt (keyB l[k].key) (hasS ((l.take k).map It.key) l[k].key) (itB l[k]) (tgE l[k].tags) from rfl)
      have HNO := Lib.hid (itB_no l[k])
      have HYES := Lib.hid (itB_yes l[k])
      have HTX := Lib.hid (HTG.out l[k] (List.getElem_mem hkl))
      generalize l[k] = x at *
      obtain ⟨key, cents, many, tv, tc, tags⟩ := x
      simp only at c0 c1 c2 c3 ok1 ok2 ok3 ok4 ok5 ok6 HOS HNO HYES HE HTX
      have C1 := Lib.hid (fun w => isKey_any key w (by unfold maxLen; omega))
      have C2 := Lib.hid (fun w' (hb : Below w.heap.size w w') q hq => chkItHas_any (some ⟨p, off, none⟩) (l.take k) k c q key w' (by simp; omega) (by omega) ((HI.out.below hb).take k) hq)
      have C3 := Lib.hid (fun w' (hb : Below w.heap.size w w') => checkTags_any tv tags tags.length tc w' rfl (by omega) (HTX.out.below hb) (fun s hs => by have := HOS.out s hs; omega))
      generalize hasS ((l.take k).map It.key) key = b2 at *
      generalize itB ⟨key, cents, many, tv, tc, tags⟩ = b3 at *
      generalize keyB key = b1 at *
      generalize tgE tags = te at *
      have X0 := Lib.hid (XB.new wr [.string key, .int .i64 cents, .int .i64 many, .slice tv tags.length tc] 178)
      have HB := Lib.hid (hB.alloc hB.size (.cells #[.string key, .int .i64 cents, .int .i64 many, .slice tv tags.length tc] 178))
      have HXL := Lib.hid (HXK.out.alloc (.cells #[.string key, .int .i64 cents, .int .i64 many, .slice tv tags.length tc] 178))
      simp only [List.toArray] at X0
      clear hV HXK ok7
      go_wp2_with fail
      with_reducible refine (C1.out _).mono ?_
      rintro e w1 ⟨rfl, rfl⟩
      have d1 := Below.refl (wr.alloc (.cells #[.string key, .int .i64 cents, .int .i64 many, .slice tv tags.length tc] 178)).heap.size (wr.alloc (.cells #[.string key, .int .i64 cents, .int .i64 many, .slice tv tags.length tc] 178))
      have HB1 := Lib.hid (HB.out.trans (d1.mono HB.out.size))
      have X1 := X0.out.below d1
      have HX1L := Lib.hid (HXL.out.below d1)
      obtain ⟨x0, x1, x2, x3⟩ := X1.at4
      have hq := X1.1
      have HX1 := Lib.hid X1
      clear X0 HB X1 d1 HXL
      cases b1 with
      | false =>
        go_wp2_with fail
        go_ret
        exact ⟨ret_int (HVE.out.trans (bk_bad ((HV.out.1 (by rw [HE.out]; simp [itSt])).trans HE.out) (by simp [itSt]))).symm, HB1.out⟩
      | true =>
        obtain ⟨z0, z1⟩ := HX1L.out.at2
        have hzl := HX1L.out.1
        go_wp2_with fail
        with_reducible refine (C2.out _ HB1.out _ x0).mono ?_
        rintro e w2 ⟨rfl, d2⟩
        have HB2 := Lib.hid (HB1.out.trans (d2.mono HB1.out.size))
        have X2 := HX1.out.below d2
        have HX2L := Lib.hid (HX1L.out.below d2)
        clear x0 x1 x2 x3 hq z0 z1 hzl
        obtain ⟨x0, x1, x2, x3⟩ := X2.at4
        have hq := X2.1
        have HX2 := Lib.hid X2
        clear HX1 HX1L HB1 X2 d2 C1 C2
        cases b2 with
        | true =>
          go_wp2_with fail
          go_ret
          exact ⟨ret_int (HVE.out.trans (bk_bad ((HV.out.1 (by rw [HE.out]; simp [itSt])).trans HE.out) (by simp [itSt]))).symm, HB2.out⟩
        | false =>
          by_cases h0 : cents < 0 ∨ 10000000 < cents
          · obtain rfl : b3 = false := HNO.out (by omega)
            clear HNO HYES
            go_wp2_with fail
            with_reducible refine (owithin_no _ _ _ _ h0).mono ?_
            rintro e w5 ⟨rfl, rfl⟩
            go_wp2_with fail
            go_ret
            exact ⟨ret_int (HVE.out.trans (bk_bad ((HV.out.1 (by rw [HE.out]; simp [itSt])).trans HE.out) (by simp [itSt]))).symm, HB2.out⟩
          · skip
            have p0a : 0 ≤ cents := by omega
            have p0b : cents ≤ 10000000 := by omega
            clear h0
            by_cases h1 : many < 1 ∨ 100 < many
            · obtain rfl : b3 = false := HNO.out (by omega)
              clear HNO HYES
              go_wp2_with fail
              with_reducible refine (owithin_yes _ _ _ _ p0a p0b).mono ?_
              rintro e w5 ⟨rfl, rfl⟩
              go_wp2_with fail
              with_reducible refine (owithin_no _ _ _ _ h1).mono ?_
              rintro e w5 ⟨rfl, rfl⟩
              go_wp2_with fail
              go_ret
              exact ⟨ret_int (HVE.out.trans (bk_bad ((HV.out.1 (by rw [HE.out]; simp [itSt])).trans HE.out) (by simp [itSt]))).symm, HB2.out⟩
            · skip
              have p1a : 1 ≤ many := by omega
              have p1b : many ≤ 100 := by omega
              clear h1
              have HY := Lib.hid (HYES.out (by omega) (by omega) (by omega) (by omega))
              obtain rfl : b3 = true := HY.out
              clear HNO HYES HY
              go_wp2_with fail
              with_reducible refine (owithin_yes _ _ _ _ p0a p0b).mono ?_
              rintro e w5 ⟨rfl, rfl⟩
              go_wp2_with fail
              with_reducible refine (owithin_yes _ _ _ _ p1a p1b).mono ?_
              rintro e w5 ⟨rfl, rfl⟩
              go_wp2_with fail
              with_reducible refine (C3.out _ HB2.out).mono ?_
              rintro e w3 ⟨rfl, d3⟩
              have HB3 := Lib.hid (HB2.out.trans (d3.mono HB2.out.size))
              have HX3L := Lib.hid (HX2L.out.below d3)
              clear d3 HX2 HX2L HB2 x0 x1 x2 x3 hq C3
              by_cases hte : te = 0
              · subst hte
                have HI1 := Lib.hid (HV.out.2 (HE.out.trans (by simp [itSt])))
                go_wp2_with fail
                go_roundw
                case rel => exact ⟨k + 1, by omega, by go_num, HB3.out, HI1.out, HX3L.out⟩
                case measure => simp [intOf]; omega
              · have HTE := Lib.hid hte
                have hce1 : (te == 0) = false := by simpa using hte
                have hce2 : (te != 0) = true := by simpa using hte
                go_wp2_with fail
                go_ret
                exact ⟨ret_int (HVE.out.trans (bk_bad ((HV.out.1 (by rw [HE.out]; simp [itSt, HTE.out])).trans (HE.out.trans (by simp [itSt]))) HTE.out)).symm, HB3.out⟩
    · have HD := Lib.hid (hV.done (by have := HN.out; omega))
      have HVF := Lib.hid (HVE.out.trans (if_neg (by rw [HD.out]; decide)))
      have HBB := Lib.hid hB
      obtain ⟨z0, z1⟩ := HXK.out.at2
      have hzl := HXK.out.1
      clear hV hB HVE HD
      by_cases h0 : ship < 0 ∨ 1000000000000 < ship
      · have HR := Lib.hid (HVF.out.trans (if_pos h0))
        go_wp2_with fail
        with_reducible refine (owithin_no _ _ _ _ h0).mono ?_
        rintro e w5 ⟨rfl, rfl⟩
        go_wp2_with fail
        go_ret
        exact ⟨ret_int HR.out.symm, HBB.out⟩
      · have HR := Lib.hid (HVF.out.trans (if_neg h0))
        have p1 : 0 ≤ ship := by omega
        have p2 : ship ≤ 1000000000000 := by omega
        clear h0
        go_wp2_with fail
        with_reducible refine (owithin_yes _ _ _ _ p1 p2).mono ?_
        rintro e w5 ⟨rfl, rfl⟩
        go_wp2_with fail
        go_ret
        exact ⟨ret_int HR.out.symm, HBB.out⟩

set_option maxRecDepth 100000 in
set_option maxHeartbeats 8000000 in
theorem BasketFault_any (a : Option Addr) (l : List It) (n c : Nat) (ship : Int) (w : World) (hn : l.length = n) (hn1 : n ≤ 50) (hc : n ≤ c) (hc' : c ≤ maxLen) (hI : RAt w a 4 It.cells l) (hTG : TagsAt It.tv It.tags w l) (hok : ∀ x ∈ l, x.ok) :
    Calls Tryd.prog 76 #[.agg #[.slice a n c, .int .i64 ship]] w fun e w' => e = .returned (.int .i64 (bkE l ship)) ∧ Below w.heap.size w w' := by
  unfold maxLen at hc'
  have HN := Lib.hid hn
  have HI := Lib.hid hI
  have HTG := Lib.hid hTG
  have HOK := Lib.hid hok
  obtain ⟨V, hV⟩ : ∃ V, bkE l ship = V := ⟨_, rfl⟩
  rw [hV]
  have HVE := Lib.hid hV.symm
  unfold bkE at HVE
  have HB0 := Lib.hid ((Below.refl w.heap.size w).alloc (Nat.le_refl _) (.cells #[.slice a n c, .int .i64 ship] 100))
  have HX0 := Lib.hid (XB.new w [.slice a n c, .int .i64 ship] 100)
  simp only [List.toArray] at HX0
  obtain ⟨z0, z1⟩ := HX0.out.at2
  have hzl := HX0.out.1
  clear hn hI hok hTG hV
  go_enter Tryd.func76, Tryd.ntmps76
  go_wp2_with fail
  clear z0 z1 hzl
  go_loopw [3, 4, 5, 13] (fun _ _ _ i wr => ∃ k : Nat, k ≤ n ∧ i = .int .i64 k ∧ Below w.heap.size w wr ∧ ItInv l k ∧ XB wr w.heap.size [.slice a n c, .int .i64 ship]) (fun _ _ _ i _ => n - (intOf i).toNat)
  case atStart => exact ⟨0, Nat.zero_le _, rfl, HB0.out, ItInv.zero l, HX0.out⟩
  case round =>
    obtain ⟨k, hk, rfl, hB, hV, hX⟩ := hrel
    have HXK := Lib.hid hX
    clear hX HX0 HB0
    by_cases hlt : k < n
    · have hkl : k < l.length := by have := HN.out; omega
      obtain ⟨p, off, rfl, hp, c0, c1, c2, c3⟩ := (HI.out.below hB).at4 hkl (v0 := .string l[k].key) (v1 := .int .i64 l[k].cents) (v2 := .int .i64 l[k].many) (v3 := .slice l[k].tv l[k].tags.length l[k].tc) rfl
      obtain ⟨ok1, ok2, ok3, ok4, ok5, ok6, ok7⟩ := HOK.out l[k] (List.getElem_mem hkl)
      have HOS := Lib.hid ok7
      have HV := Lib.hid (hV.step hkl)
      have HE := Lib.hid (show itstepE (l.take k) l[k] = itSt (keyB l[k].key) (hasS ((l.take k).map It.key) l[k].key) (itB l[k]) (tgE l[k].tags) from rfl)
      have HNO := Lib.hid (itB_no l[k])
      have HYES := Lib.hid (itB_yes l[k])
      have HTX := Lib.hid (HTG.out l[k] (List.getElem_mem hkl))
      generalize l[k] = x at *
      obtain ⟨key, cents, many, tv, tc, tags⟩ := x
      simp only at c0 c1 c2 c3 ok1 ok2 ok3 ok4 ok5 ok6 HOS HNO HYES HE HTX
      have C1 := Lib.hid (fun w => keyOf_any key w (by unfold maxLen; omega))
      have C2 := Lib.hid (fun w' (hb : Below w.heap.size w w') q hq => itFaultHas_any (some ⟨p, off, none⟩) (l.take k) k c q key w' (by simp; omega) (by omega) ((HI.out.below hb).take k) hq)
      have C3 := Lib.hid (fun w' (hb : Below w.heap.size w w') => tagsFault_any tv tags tags.length tc w' rfl (by omega) (HTX.out.below hb) (fun s hs => by have := HOS.out s hs; omega))
      generalize hasS ((l.take k).map It.key) key = b2 at *
      generalize itB ⟨key, cents, many, tv, tc, tags⟩ = b3 at *
      generalize keyB key = b1 at *
      generalize tgE tags = te at *
      have X0 := Lib.hid (XB.new wr [.string key, .int .i64 cents, .int .i64 many, .slice tv tags.length tc] 178)
      have HB := Lib.hid (hB.alloc hB.size (.cells #[.string key, .int .i64 cents, .int .i64 many, .slice tv tags.length tc] 178))
      have HXL := Lib.hid (HXK.out.alloc (.cells #[.string key, .int .i64 cents, .int .i64 many, .slice tv tags.length tc] 178))
      simp only [List.toArray] at X0
      clear hV HXK ok7
      go_wp2_with fail
      with_reducible refine (C1.out _).mono ?_
      rintro e w1 ⟨rfl, d1⟩
      have HB1 := Lib.hid (HB.out.trans (d1.mono HB.out.size))
      have X1 := X0.out.below d1
      have HX1L := Lib.hid (HXL.out.below d1)
      obtain ⟨x0, x1, x2, x3⟩ := X1.at4
      have hq := X1.1
      have HX1 := Lib.hid X1
      clear X0 HB X1 d1 HXL
      cases b1 with
      | false =>
        go_wp2_with fail
        go_ret
        exact ⟨ret_int (HVE.out.trans (bk_bad ((HV.out.1 (by rw [HE.out]; simp [itSt])).trans HE.out) (by simp [itSt]))).symm, HB1.out⟩
      | true =>
        obtain ⟨z0, z1⟩ := HX1L.out.at2
        have hzl := HX1L.out.1
        go_wp2_with fail
        with_reducible refine (C2.out _ HB1.out _ x0).mono ?_
        rintro e w2 ⟨rfl, d2⟩
        have HB2 := Lib.hid (HB1.out.trans (d2.mono HB1.out.size))
        have X2 := HX1.out.below d2
        have HX2L := Lib.hid (HX1L.out.below d2)
        clear x0 x1 x2 x3 hq z0 z1 hzl
        obtain ⟨x0, x1, x2, x3⟩ := X2.at4
        have hq := X2.1
        have HX2 := Lib.hid X2
        clear HX1 HX1L HB1 X2 d2 C1 C2
        cases b2 with
        | true =>
          go_wp2_with fail
          go_ret
          exact ⟨ret_int (HVE.out.trans (bk_bad ((HV.out.1 (by rw [HE.out]; simp [itSt])).trans HE.out) (by simp [itSt]))).symm, HB2.out⟩
        | false =>
          by_cases h0 : cents < 0
          · obtain rfl : b3 = false := HNO.out (by omega)
            clear HNO HYES
            go_wp2_with fail
            go_ret
            exact ⟨ret_int (HVE.out.trans (bk_bad ((HV.out.1 (by rw [HE.out]; simp [itSt])).trans HE.out) (by simp [itSt]))).symm, HB2.out⟩
          · skip
            by_cases h1 : 10000000 < cents
            · obtain rfl : b3 = false := HNO.out (by omega)
              clear HNO HYES
              go_wp2_with fail
              go_ret
              exact ⟨ret_int (HVE.out.trans (bk_bad ((HV.out.1 (by rw [HE.out]; simp [itSt])).trans HE.out) (by simp [itSt]))).symm, HB2.out⟩
            · skip
              by_cases h2 : many < 1
              · obtain rfl : b3 = false := HNO.out (by omega)
                clear HNO HYES
                go_wp2_with fail
                go_ret
                exact ⟨ret_int (HVE.out.trans (bk_bad ((HV.out.1 (by rw [HE.out]; simp [itSt])).trans HE.out) (by simp [itSt]))).symm, HB2.out⟩
              · skip
                by_cases h3 : 100 < many
                · obtain rfl : b3 = false := HNO.out (by omega)
                  clear HNO HYES
                  go_wp2_with fail
                  go_ret
                  exact ⟨ret_int (HVE.out.trans (bk_bad ((HV.out.1 (by rw [HE.out]; simp [itSt])).trans HE.out) (by simp [itSt]))).symm, HB2.out⟩
                · skip
                  have HY := Lib.hid (HYES.out (by omega) (by omega) (by omega) (by omega))
                  obtain rfl : b3 = true := HY.out
                  clear HNO HYES HY
                  go_wp2_with fail
                  with_reducible refine (C3.out _ HB2.out).mono ?_
                  rintro e w3 ⟨rfl, d3⟩
                  have HB3 := Lib.hid (HB2.out.trans (d3.mono HB2.out.size))
                  have HX3L := Lib.hid (HX2L.out.below d3)
                  clear d3 HX2 HX2L HB2 x0 x1 x2 x3 hq C3
                  by_cases hte : te = 0
                  · subst hte
                    have HI1 := Lib.hid (HV.out.2 (HE.out.trans (by simp [itSt])))
                    go_wp2_with fail
                    go_roundw
                    case rel => exact ⟨k + 1, by omega, by go_num, HB3.out, HI1.out, HX3L.out⟩
                    case measure => simp [intOf]; omega
                  · have HTE := Lib.hid hte
                    have hce1 : (te == 0) = false := by simpa using hte
                    have hce2 : (te != 0) = true := by simpa using hte
                    go_wp2_with fail
                    go_ret
                    exact ⟨ret_int (HVE.out.trans (bk_bad ((HV.out.1 (by rw [HE.out]; simp [itSt, HTE.out])).trans (HE.out.trans (by simp [itSt]))) HTE.out)).symm, HB3.out⟩
    · have HD := Lib.hid (hV.done (by have := HN.out; omega))
      have HVF := Lib.hid (HVE.out.trans (if_neg (by rw [HD.out]; decide)))
      have HBB := Lib.hid hB
      obtain ⟨z0, z1⟩ := HXK.out.at2
      have hzl := HXK.out.1
      clear hV hB HVE HD
      by_cases h0 : ship < 0
      · have HR := Lib.hid (HVF.out.trans (if_pos (.inl h0)))
        go_wp2_with fail
        go_ret
        exact ⟨ret_int HR.out.symm, HBB.out⟩
      · by_cases h1 : 1000000000000 < ship
        · have HR := Lib.hid (HVF.out.trans (if_pos (.inr h1)))
          go_wp2_with fail
          go_ret
          exact ⟨ret_int HR.out.symm, HBB.out⟩
        · have HR := Lib.hid (HVF.out.trans (if_neg (by omega)))
          go_wp2_with fail
          go_ret
          exact ⟨ret_int HR.out.symm, HBB.out⟩
end Go.Proofs.YtdnikegakcdcnaaDoor
