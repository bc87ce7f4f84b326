/- The walk of the statement BasketsPriced (printed by gen_bkpr.py). -/
import Derived.Test.YtdefjnefkdemiaaGreatDoorM1
import Derived.Test.YtdefjnefkdemiaaGreatDoorRows
import Derived.Test.YtdefjnefkdemiaaGreatDoorBkFacts
import Derived.Test.YtdefjnefkdemiaaGreatDoorM6
import Derived.Test.YtdefjnefkdemiaaGreatDoorPriceOf
import Derived.Test.YtdefjnefkdemiaaGreatDoorSamePr
import Derived.Test.YtdefjnefkdemiaaGreatDoorM4
import Derived.Laws.Tables
import Derived.LaidMore
import Derived.Tactics2
import Derived.Deep.RegionWith
import Derived.Deep.DeepCutAuto
import Derived.Deep.CutBlock
set_option linter.unusedVariables false
namespace Go.Proofs.YtdefjnefkdemiaaGreatDoor
open Go.RowKit

theorem of_plain {x : Of} (h : x.ok) : ({ x with group := ⟨#[]⟩ } : Of).ok := Of.ok.ok_group h ⟨#[]⟩ (by decide)
theorem of_plain2 {x : Of} (h : x.ok) : ({ x with group := ⟨#[]⟩, alone := false } : Of).ok := Of.ok.ok_group h ⟨#[]⟩ (by decide)
theorem ok_set2 {l : List Of} {j : Nat} {x : Of} (h : ∀ x ∈ l, x.ok) (hx : x.ok) : ∀ y ∈ l.set j x, y.ok := fun y hy => by
  rcases List.mem_or_eq_of_mem_set hy with hy | rfl
  · exact h y hy
  · exact hx
set_option maxRecDepth 100000 in
set_option maxHeartbeats 16000000 in
theorem basketsPriced_walk (a0 : Option Addr) (len0 cap0 : Nat) (z0 : List Int) (w : World) (w0 : IsRow .i64 w a0 len0 cap0 z0) (ht : True) :
    Calls Tryz.prog 3 #[.slice a0 len0 cap0] w fun e w' => e = .returned (.bool true) ∧ Below w.heap.size w w' := by
  obtain ⟨S, hBS, hp, s0, g0⟩ := strm_begin w0
  clear w0 ht
  go_enter Tryz.func3, Tryz.ntmps3
  go_wp2_with fail
  clear hp
  have C : Calls Tryz.prog 5 #[S.p, .int .i64 4] _ _ := offers_own S _ 4 _ s0 (by omega) (by omega) (by omega)
  with_reducible refine C.mono ?_
  clear C
  rintro e w1 ⟨a, c, l, ⟨hl4, hlo⟩, rfl, hc, hcm, own1, -, -, k1, s1, tg1⟩
  obtain ⟨b1, hb1, own1⟩ : ∃ b1, S.g < b1 ∧ w1.ownsRow b1 37 12 (.slice a l.length c) l.length (l.flatMap Of.cells) := ⟨_, strm_lt s0, own1⟩
  have hwb : w.heap.size ≤ b1 := by omega
  have hg1 := strm_lt s1
  obtain ⟨n, hnn⟩ : ∃ n, l.length = n := ⟨_, rfl⟩
  rw [hnn] at hl4 hc own1 ⊢
  have HN := Lib.hid hnn
  have HOK := Lib.hid hlo
  have HG1 := Lib.hid (grown_trans g0 k1)
  have HO1 := Lib.hid own1
  have HT1 := Lib.hid tg1
  clear hnn k1 g0 s0 hlo own1 tg1
  go_wp2_with fail
  with_reducible refine (basket_own S _ _ s1 (by omega)).mono ?_
  rintro e w2 ⟨ai, ci, li, ship, rfl, hli4, hoki, hsh0, hsh1, hci, hcim, -, -, k2, s2, oi2, ti2⟩
  obtain ⟨b2, hb2⟩ : ∃ b, w1.heap.size = b := ⟨_, rfl⟩
  rw [hb2] at oi2 hg1
  have HAB : Hid (∀ g, (Value.slice a n c).ownBlock = some g → g < b2) := Lib.hid (fun g hg => by have := (HO1.out.lt g hg).2; omega)
  have HK2 := Lib.hid k2
  have hz2 : b2 ≤ w2.heap.size := by have := k2.size; omega
  obtain ⟨ni, hnn⟩ : ∃ n, li.length = n := ⟨_, rfl⟩
  rw [hnn] at hli4 hci oi2 ⊢
  have HNI := Lib.hid hnn
  have HOKI := Lib.hid hoki
  have HA2 : Hid (BF w S b1 b2 a n c l ai ni ci li w2) := Lib.hid ⟨grown_trans HG1.out HK2.out, own_grown HO1.out HK2.out (fun g hg e => by have := (HO1.out.lt g hg).1; injection e with e; omega), fun x hx => (HT1.out x hx).draw HK2.out, oi2, ti2⟩
  clear hnn k2 HK2 oi2 ti2 hoki HG1 HO1 HT1 s1 hb2
  go_wp2_with fail
  with_reducible refine (at_any S _ _ s2 (by omega)).mono ?_
  rintro e w3 ⟨t, ⟨ht0, ht1⟩, rfl, k3, s3⟩
  have HA3 := Lib.hid (HA2.out.draw k3 hb1 hg1)
  have hz3 : b2 ≤ w3.heap.size := by have := k3.size; omega
  clear HA2 k3 s2 hz2
  have HBB := Lib.hid (((Below.refl w3.heap.size w3).alloc (Nat.le_refl _) (.cells #[.slice ai ni ci, .int .i64 ship] 30)).alloc (by simp) (.cells #[.int .i64 t] 3))
  have HA4 := Lib.hid (HA3.out.below HBB.out)
  have s4 := strm_below s3 HBB.out
  have HQ4 := Lib.hid ((XB.new w3 [.slice ai ni ci, .int .i64 ship] 30).alloc (.cells #[.int .i64 t] 3))
  have HT4 := Lib.hid (XB.new (w3.alloc (.cells #[.slice ai ni ci, .int .i64 ship] 30)) [.int .i64 t] 3)
  simp only [List.toArray] at HQ4 HT4
  have hza : (w3.alloc (.cells #[.slice ai ni ci, .int .i64 ship] 30)).heap.size = w3.heap.size + 1 := by simp
  rw [hza] at HT4
  clear HA3 HBB s3 hza
  go_upto_region 3 with (fail)
  generalize (w3.alloc (.cells #[.slice ai ni ci, .int .i64 ship] 30)).alloc (.cells #[.int .i64 t] 3) = w4 at *
  obtain ⟨qb, hqb⟩ : ∃ q, w3.heap.size = q := ⟨_, rfl⟩
  rw [hqb] at HQ4 HT4 hz3 ⊢
  obtain ⟨qt, hqt⟩ : ∃ q, qb + 1 = q := ⟨_, rfl⟩
  rw [hqt] at HT4 ⊢
  have hqtb : b2 ≤ qt := by omega
  clear hqb hqt
  go_wp2_with fail
  with_reducible refine (flip_any S _ _ _ s4 (by omega) (by omega)).mono ?_
  rintro e w5 ⟨r, rfl, k5, s5⟩
  have HA5 := Lib.hid (HA4.out.draw k5 hb1 hg1)
  have HQ5 := Lib.hid (HQ4.out.grown k5 (by simp; omega))
  have HT5 := Lib.hid (HT4.out.grown k5 (by simp; omega))
  clear HA4 HQ4 HT4 s4 k5 s5
  go_upto_if 22 with (fail)
  go_cut [4] (fun v wx => ∃ (m : Nat) (l' : List Of), v = .slice a m c ∧ m ≤ n ∧ Hid (l'.length = m) ∧ Hid (∀ x ∈ l', x.ok) ∧ BF w S b1 b2 a m c l' ai ni ci li wx ∧ XB wx qb [.slice ai ni ci, .int .i64 ship] ∧ XB wx qt [.int .i64 t])
  case first =>
    cases r with
    | false =>
      go_wp2_with fail
      go_meet
      exact ⟨n, l, rfl, Nat.le_refl _, HN, HOK, HA5.out, HQ5.out, HT5.out⟩
    | true =>
      have CD := Lib.hid (del_any a l n c b1 qb qt (delB li ship t) w5 HN.out (by omega) hc hcm HA5.out.own (fun x hx w' k => by
        obtain ⟨h1, h2, h3⟩ := HA5.out.seen k HNI.out HAB.out
        exact del1_any x qb qt ai li ni ci ship t w' (HQ5.out.grown k (fun e => by have := HAB.out qb e; omega)) ((HT5.out.grown k (fun e => by have := HAB.out qt e; omega)).2 0 _ rfl) HNI.out (by omega) hci hcim h1 h2 HOKI.out (HOK.out x hx) (h3 x hx)))
      go_wp2_with fail
      with_reducible refine CD.out.mono ?_
      rintro e w6 ⟨m, rfl, hm, hmn, own6, k6⟩
      have HA6 := Lib.hid (HA5.out.write k6 own6 (fun x hx => (List.mem_filter.1 hx).1) HAB.out hwb)
      have HOK6 : Hid (∀ x ∈ l.filter (fun x => !delB li ship t x), x.ok) := Lib.hid (fun x hx => HOK.out x ((List.mem_filter.1 hx).1))
      have HQ6 := Lib.hid (HQ5.out.grown k6 (fun e => by have := HAB.out qb e; omega))
      have HT6 := Lib.hid (HT5.out.grown k6 (fun e => by have := HAB.out qt e; omega))
      have HAB6 : Hid (∀ g, (Value.slice a m c).ownBlock = some g → g < b2) := Lib.hid (fun g hg => HAB.out g (by cases a with | none => exact hg | some p => exact hg))
      obtain ⟨l6, hl6⟩ : ∃ z, l.filter (fun x => !delB li ship t x) = z := ⟨_, rfl⟩
      rw [hl6] at HA6 HOK6 hm
      have HM := Lib.hid hm
      have hmc : m ≤ c := by omega
      clear hl6 hm own6 k6 CD HA5 HQ5 HT5 HAB HN HOK
      go_wp2_with fail
      go_loopw [7, 28] (fun _ i wr => ∃ (j : Nat) (L : List Of), j ≤ m ∧ i = .int .i64 j ∧ Hid (L.length = m) ∧ Hid (∀ x ∈ L, x.ok) ∧ BF w S b1 b2 a m c L ai ni ci li wr ∧ XB wr qb [.slice ai ni ci, .int .i64 ship] ∧ XB wr qt [.int .i64 t]) (fun _ i _ => m - (intOf i).toNat)
      case atStart => exact ⟨0, l6, Nat.zero_le _, rfl, HM, HOK6, HA6.out, HQ6.out, HT6.out⟩
      case round =>
        obtain ⟨j, L, hj, rfl, HLn, HLok, hA, hQ, hT⟩ := hrel
        have HA := Lib.hid hA
        have HQ := Lib.hid hQ
        have HT := Lib.hid hT
        clear hA hQ hT HA6 HQ6 HT6 HM HOK6
        by_cases hlt : j < m
        · obtain ⟨g, cap, hva, hbg, hgl⟩ := HA.out.own.form (by omega)
          injection hva with hva1 hva2 hva3
          subst hva1 hva3
          have hjl : j < L.length := by have := HLn.out; omega
          have hgb := HAB6.out g (by simp [Value.ownBlock])
          have HB1 := Lib.hid (HA.out.put (u := .string ⟨#[]⟩) (x := { L[j] with group := ⟨#[]⟩ }) HLn.out hjl (by decide : 7 < 12) rfl rfl rfl HAB6.out hwb)
          have hjl2 : j < (L.set j { L[j] with group := ⟨#[]⟩ }).length := by rw [List.length_set]; exact hjl
          have HB2 := Lib.hid (HB1.out.put (u := .bool false) (x := { L[j] with group := ⟨#[]⟩, alone := false }) (by rw [List.length_set]; exact HLn.out) hjl2 (by decide : 8 < 12) (by rw [List.getElem_set_self]; rfl) (by rw [List.getElem_set_self]) (by rw [List.getElem_set_self]) HAB6.out hwb)
          have HLn2 : Hid (((L.set j { L[j] with group := ⟨#[]⟩ }).set j { L[j] with group := ⟨#[]⟩, alone := false }).length = m) := Lib.hid (by rw [List.length_set, List.length_set]; exact HLn.out)
          have HLok2 : Hid (∀ x ∈ (L.set j { L[j] with group := ⟨#[]⟩ }).set j { L[j] with group := ⟨#[]⟩, alone := false }, x.ok) := Lib.hid (ok_set2 (ok_set2 HLok.out (of_plain (HLok.out _ (List.getElem_mem hjl)))) (of_plain2 (HLok.out _ (List.getElem_mem hjl))))
          have hG := (HA.out.own.stored (j * 12 + 7) (.string ⟨#[]⟩)).2
          have hG2 := (HB1.out.own.stored (j * 12 + 8) (.bool false)).2
          have HQ2 := Lib.hid ((HQ.out.grown hG (by simp; omega)).grown hG2 (by simp; omega))
          have HT2 := Lib.hid ((HT.out.grown hG (by simp; omega)).grown hG2 (by simp; omega))
          have f7 := HA.out.own.frozenAt (j * 12 + 7)
          have f8 := HB1.out.own.frozenAt (j * 12 + 8)
          have c7 : wr.cell? ⟨g, j * 12 + 7, none⟩ = some (.string L[j].group) := by rw [HA.out.own.cellAt _ (by omega), fm_get 12 Of.cells L (fun x _ => x.len) j 7 hjl (by decide)]; rfl
          have c8 : (wr.setCell ⟨g, j * 12 + 7, none⟩ (.string ⟨#[]⟩)).cell? ⟨g, j * 12 + 8, none⟩ = some (.bool L[j].alone) := by
            rw [HB1.out.own.cellAt _ (by omega), fm_get 12 Of.cells _ (fun x _ => x.len) j 8 hjl2 (by decide), List.getElem_set_self]; rfl
          generalize (L.set j { L[j] with group := ⟨#[]⟩ }).set j { L[j] with group := ⟨#[]⟩, alone := false } = L2 at *
          generalize L[j].group = og at *
          generalize L[j].alone = oa at *
          clear HB1 hG hG2 HA HQ HT HLn HLok hjl hjl2
          go_wp2_with fail
          go_roundw
          case rel => exact ⟨j + 1, L2, by omega, by go_num, HLn2, HLok2, HB2.out, HQ2.out, HT2.out⟩
          case measure => simp [intOf]; omega
        · obtain rfl : j = m := by omega
          go_wp2_with fail
          go_meet
          exact ⟨j, L, rfl, hmn, HLn, HLok, HA.out, HQ.out, HT.out⟩
  case rest =>
  obtain ⟨m, l', rfl, hmn, HL, HOKL, hA, hQ, hT⟩ := hcut
  have HA := Lib.hid hA
  have HQ := Lib.hid hQ
  have HT := Lib.hid hT
  clear hA hQ hT HA5 HQ5 HT5 HN HOK HAB
  have hm4 : m ≤ 4 := by omega
  have hmc : m ≤ c := by omega
  have HLE := Lib.hid (prS_len l' li ship t)
  have HGR := Lib.hid (fun w' (h : BF w S b1 b2 a m c l' ai ni ci li w') => below_of_grown h.gr hBS)
  have CP := Lib.hid (fun w' (h : BF w S b1 b2 a m c l' ai ni ci li w') => Price_any a l' m c ai li ni ci ship t w' HL.out (by omega) hmc hcm (h.ro HL.out) h.tgo HOKL.out HNI.out (by omega) hci hcim (h.ri HNI.out) h.tgi HOKI.out)
  have CO := Lib.hid (fun w' (h : BF w S b1 b2 a m c l' ai ni ci li w') => PriceOf_any a l' m c ai li ni ci ship t w' HL.out (by omega) hmc hcm (h.ro HL.out) h.tgo HOKL.out HNI.out (by omega) hci hcim (h.ri HNI.out) h.tgi HOKI.out)
  obtain ⟨E, hE⟩ : ∃ z, bkPrE l' li ship t = z := ⟨_, rfl⟩
  obtain ⟨s, hs⟩ : ∃ z, bkPrS l' li ship t = z := ⟨_, rfl⟩
  rw [hE, hs] at CP CO
  rw [hs, HL.out, HNI.out] at HLE
  have HS1 := Lib.hid (show s.left.length ≤ 1000 ∧ s.cuts.length ≤ 1000 by have := HLE.out; omega)
  obtain ⟨tt, htt⟩ : ∃ z, s.ship + s.left.sum = z := ⟨_, rfl⟩
  have HTT := Lib.hid htt
  clear hE hs HLE HL HOKL HNI HOKI htt
  have C1 := Lib.hid (CP.out _ HA.out)
  obtain ⟨y0, y1⟩ := HQ.out.at2'
  have hyl := HQ.out.1
  have t0 := HT.out.2 0 _ rfl
  have htl := HT.out.1
  go_wp2_with fail
  with_reducible refine C1.out.mono ?_
  rintro e w8 ⟨v, rfl, hP, b8⟩
  have HP8 := Lib.hid hP
  obtain ⟨la, cl, lc, cc, hv, -⟩ := hP
  rw [HTT.out] at hv
  subst hv
  have HB9 := Lib.hid ((Below.refl w8.heap.size w8).alloc (Nat.le_refl _) (.cells #[.slice la s.left.length cl, .int .i64 (s.ship : Int), .slice lc s.cuts.length cc, .int .i64 (tt : Int)] 42))
  have HA9 := Lib.hid ((HA.out.below b8).below HB9.out)
  have HQ9 := Lib.hid ((HQ.out.below b8).below HB9.out)
  have HT9 := Lib.hid ((HT.out.below b8).below HB9.out)
  have HP9 := Lib.hid (HP8.out.below HB9.out)
  have HX9 := Lib.hid (XB.new w8 [.slice la s.left.length cl, .int .i64 (s.ship : Int), .slice lc s.cuts.length cc, .int .i64 (tt : Int)] 42)
  simp only [List.toArray] at HX9
  clear HP8 HB9 HA HQ HT b8 y0 y1 hyl t0 htl C1 CP
  go_upto_region 11 with (fail)
  generalize w8.alloc (.cells #[.slice la s.left.length cl, .int .i64 (s.ship : Int), .slice lc s.cuts.length cc, .int .i64 (tt : Int)] 42) = w9 at *
  generalize w8.heap.size = q8 at *
  have C2 := Lib.hid (CO.out _ HA9.out)
  obtain ⟨y0, y1⟩ := HQ9.out.at2'
  have hyl := HQ9.out.1
  have t0 := HT9.out.2 0 _ rfl
  have htl := HT9.out.1
  go_wp2_with fail
  with_reducible refine C2.out.mono ?_
  rintro e w10 ⟨v, rfl, hP, b10⟩
  have HP10 := Lib.hid hP
  obtain ⟨la2, cl2, lc2, cc2, hv, -⟩ := hP
  rw [HTT.out] at hv
  subst hv
  have HB11 := Lib.hid ((Below.refl w10.heap.size w10).alloc (Nat.le_refl _) (.cells #[.slice la2 s.left.length cl2, .int .i64 (s.ship : Int), .slice lc2 s.cuts.length cc2, .int .i64 (tt : Int)] 42))
  have HG11 := Lib.hid (HGR.out _ ((HA9.out.below b10).below HB11.out))
  have HPa := Lib.hid ((HP9.out.below b10).below HB11.out)
  have HPb := Lib.hid (HP10.out.below HB11.out)
  have HXa := Lib.hid ((HX9.out.below b10).below HB11.out)
  have HXb := Lib.hid (XB.new w10 [.slice la2 s.left.length cl2, .int .i64 (s.ship : Int), .slice lc2 s.cuts.length cc2, .int .i64 (tt : Int)] 42)
  simp only [List.toArray] at HXb
  clear HP9 HP10 HB11 HA9 HQ9 HT9 HX9 b10 y0 y1 hyl t0 htl C2 CO HGR
  go_upto_region 12 with (fail)
  generalize w10.alloc (.cells #[.slice la2 s.left.length cl2, .int .i64 (s.ship : Int), .slice lc2 s.cuts.length cc2, .int .i64 (tt : Int)] 42) = w11 at *
  generalize w10.heap.size = q10 at *
  have CS := Lib.hid (samePriced_any w11 _ _ _ _ s HPa.out HPb.out HS1.out.1 HS1.out.2)
  obtain ⟨x0, x1, x2, x3⟩ := HXa.out.at4
  have hxl := HXa.out.1
  obtain ⟨z0, z1, z2, z3⟩ := HXb.out.at4
  have hzl := HXb.out.1
  have hee : (E == E) = true := by simp
  clear HPa HPb HXa HXb HS1
  go_wp2_with fail
  with_reducible refine (offers_any _).mono ?_
  rintro e w12 ⟨rfl, rfl⟩
  go_wp2_with fail
  with_reducible refine CS.out.mono ?_
  rintro e w12 ⟨rfl, b12⟩
  have HF := Lib.hid (HG11.out.trans (b12.mono HG11.out.size))
  clear b12 CS x0 x1 x2 x3 hxl z0 z1 z2 z3 hzl HG11
  go_wp2_with fail
  go_ret
  exact ⟨rfl, HF.out⟩
theorem basketsPriced_tabs {P : Prop} (_ : P) : True := trivial
end Go.Proofs.YtdefjnefkdemiaaGreatDoor
