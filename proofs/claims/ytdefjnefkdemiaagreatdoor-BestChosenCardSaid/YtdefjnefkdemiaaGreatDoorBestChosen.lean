/- The walk of the statement BestChosen (printed by gen_bestch.py). -/
import Derived.Test.YtdefjnefkdemiaaGreatDoorM1
import Derived.Test.YtdefjnefkdemiaaGreatDoorRows
import Derived.Test.YtdefjnefkdemiaaGreatDoorBkFacts
import Derived.Test.YtdefjnefkdemiaaGreatDoorBest
import Derived.Test.YtdefjnefkdemiaaGreatDoorBestOf
import Derived.Test.YtdefjnefkdemiaaGreatDoorSamePr
import Derived.Test.YtdefjnefkdemiaaGreatDoorM3
import Derived.Test.YtdefjnefkdemiaaGreatDoorM4
import Derived.Laws.Tables
import Derived.LaidMore
import Derived.Tactics2
import Derived.Deep.RegionWith
set_option linter.unusedVariables false
namespace Go.Proofs.YtdefjnefkdemiaaGreatDoor
open Go.RowKit

theorem prOf_len (li : List It) (ship : Int) (o : List Of) : (prOf li ship o).left.length ≤ li.length ∧ (prOf li ship o).cuts.length ≤ o.length := by
  unfold prOf goP
  obtain ⟨h1, h2⟩ := goS_len li ((srtO o).take o.length) (startP li ship)
  refine ⟨by rw [h1]; simp [startP], ?_⟩
  rw [h2]
  have : (startP li ship).cuts.length = 0 := rfl
  rw [this, List.length_take]
  omega
theorem bsGo_prl (l : List Of) (li : List It) (ship : Int) (F : List Nat) : ∀ k, (bsGo l li ship F k).pr.left.length ≤ li.length ∧ (bsGo l li ship F k).pr.cuts.length ≤ F.length
  | 0 => ⟨by simp [bsGo, startP], Nat.zero_le _⟩
  | k + 1 => by
    have ih := bsGo_prl l li ship F k
    show (bsStep l li ship F (bsGo l li ship F k) (k + 1)).pr.left.length ≤ li.length ∧ (bsStep l li ship F (bsGo l li ship F k) (k + 1)).pr.cuts.length ≤ F.length
    unfold bsStep
    split
    · split
      · obtain ⟨h1, h2⟩ := prOf_len li ship (selO l (selI F (k + 1) F.length))
        exact ⟨h1, Nat.le_trans h2 (Nat.le_trans (List.length_filterMap_le _ _) (selI_le _ _ _))⟩
      · exact ih
    · exact ih
theorem bsR_len (l : List Of) (li : List It) (ship t : Int) : (bsR l li ship t).best.length ≤ l.length ∧ (bsR l li ship t).pr.left.length ≤ li.length ∧ (bsR l li ship t).pr.cuts.length ≤ l.length := by
  have hF : (bsFit l li ship t).length ≤ l.length := fitU_le _ _ _
  unfold bsR
  split
  · exact ⟨Nat.le_trans (bsGo_len _ _ _ _ _) hF, (bsGo_prl _ _ _ _ _).1, Nat.le_trans (bsGo_prl _ _ _ _ _).2 hF⟩
  · exact ⟨Nat.zero_le _, Nat.zero_le _, Nat.zero_le _⟩
theorem nats_slice {w : World} {la : Option Addr} {c : List Nat} (n cl : Nat) (hn : c.length = n) (h : natsAt w la c) : SliceIs w (.slice la n cl) (c.map fun (x : Nat) => (x : Int)) := ⟨la, cl, by rw [List.length_map, hn], h⟩

set_option maxRecDepth 100000 in
set_option maxHeartbeats 16000000 in
theorem bestChosen_walk (a0 : Option Addr) (len0 cap0 : Nat) (z0 : List Int) (w : World) (w0 : IsRow .i64 w a0 len0 cap0 z0) (ht : True) :
    Calls Tryz.prog 4 #[.slice a0 len0 cap0] w fun e w' => e = .returned (.bool true) ∧ Below w.heap.size w w' := by
  obtain ⟨S, hBS, hp, s0, g0⟩ := strm_begin w0
  clear w0 ht
  have hgs := strm_lt s0
  have s0a := strm_alloc s0 (.cells #[.int .i64 3, .int .i64 5, .int .i64 7, .int .i64 13] 3)
  have CPK := Lib.hid (pick_any S 0 (w.alloc (.cells #[.slice a0 len0 cap0, .int .i64 0] 25)).heap.size [3, 5, 7, 13] 4 4 _ s0a (by omega) rfl (by omega) (by omega) (heap_alloc_new _ _) (by omega))
  rw [World.size_alloc] at CPK
  have HGA := Lib.hid (grown_trans g0 (World.grownBy_alloc (w.alloc (.cells #[.slice a0 len0 cap0, .int .i64 0] 25)) (.cells #[.int .i64 3, .int .i64 5, .int .i64 7, .int .i64 13] 3) _))
  clear s0 s0a g0 hgs
  go_enter Tryz.func4, Tryz.ntmps4
  go_wp2_with fail
  clear hp
  with_reducible refine CPK.out.mono ?_
  rintro e w0 ⟨m, hm, rfl, k0, s0⟩
  have HG0 := Lib.hid (grown_trans HGA.out k0)
  obtain ⟨mm, rfl, hm1, hm2⟩ : ∃ mm : Nat, m = mm ∧ 1 ≤ mm ∧ mm ≤ 13 := by
    simp only [List.mem_cons, List.mem_nil_iff, or_false] at hm
    exact ⟨m.toNat, by omega, by omega, by omega⟩
  clear CPK HGA hm k0
  go_wp2_with fail
  with_reducible refine (offers_own S _ mm _ s0 (by omega) (by omega) (by omega)).mono ?_
  rintro e w1 ⟨a, c, l, ⟨hl4, hlo⟩, rfl, hc, hcm, own1, -, -, k1, s1, tg1⟩
  obtain ⟨b1, hb1, hwb, own1⟩ : ∃ b1, S.g < b1 ∧ w.heap.size ≤ b1 ∧ w1.ownsRow b1 37 12 (.slice a l.length c) l.length (l.flatMap Of.cells) := ⟨_, strm_lt s0, Nat.le_trans hBS (Nat.le_of_lt (strm_lt s0)), own1⟩
  have hg1 := strm_lt s1
  obtain ⟨n, hnn⟩ : ∃ n, l.length = n := ⟨_, rfl⟩
  rw [hnn] at hl4 hc own1 ⊢
  have HN := Lib.hid hnn
  have HOK := Lib.hid hlo
  have HG1 := Lib.hid (grown_trans HG0.out k1)
  have HO1 := Lib.hid own1
  have HT1 := Lib.hid tg1
  clear hnn k1 HG0 s0 hlo own1 tg1
  go_wp2_with fail
  with_reducible refine (basket_own S _ _ s1 (by omega)).mono ?_
  rintro e w2 ⟨ai, ci, li, ship, rfl, hli4, hoki, hsh0, hsh1, hci, hcim, -, -, k2, s2, oi2, ti2⟩
  obtain ⟨b2, hb2⟩ : ∃ b, w1.heap.size = b := ⟨_, rfl⟩
  rw [hb2] at oi2 hg1
  have HK2 := Lib.hid k2
  obtain ⟨ni, hnn⟩ : ∃ n, li.length = n := ⟨_, rfl⟩
  rw [hnn] at hli4 hci oi2 ⊢
  have HNI := Lib.hid hnn
  have HOKI := Lib.hid hoki
  have HA2 : Hid (BF w S b1 b2 a n c l ai ni ci li w2) := Lib.hid ⟨grown_trans HG1.out HK2.out, own_grown HO1.out HK2.out (fun g hg e => by have := (HO1.out.lt g hg).1; injection e with e; omega), fun x hx => (HT1.out x hx).draw HK2.out, oi2, ti2⟩
  clear hnn k2 HK2 oi2 ti2 hoki HG1 HO1 HT1 s1 hb2
  go_wp2_with fail
  with_reducible refine (at_any S _ _ s2 (by omega)).mono ?_
  rintro e w3 ⟨t, ⟨ht0, ht1⟩, rfl, k3, s3⟩
  have HA3 := Lib.hid (HA2.out.draw k3 hb1 hg1)
  clear HA2 k3 s2 s3
  have HBB := Lib.hid ((Below.refl w3.heap.size w3).alloc (Nat.le_refl _) (.cells #[.slice ai ni ci, .int .i64 ship] 30))
  have HA4 := Lib.hid (HA3.out.below HBB.out)
  have HQ4 := Lib.hid (XB.new w3 [.slice ai ni ci, .int .i64 ship] 30)
  simp only [List.toArray] at HQ4
  clear HA3 HBB
  go_upto_region 3 with (fail)
  generalize w3.alloc (.cells #[.slice ai ni ci, .int .i64 ship] 30) = w4 at *
  generalize w3.heap.size = qb at *
  have hn13 : n ≤ 13 := by omega
  have HLE := Lib.hid (bsR_len l li ship t)
  have HGR := Lib.hid (fun w' (h : BF w S b1 b2 a n c l ai ni ci li w') => below_of_grown h.gr hBS)
  have CP := Lib.hid (fun w' (h : BF w S b1 b2 a n c l ai ni ci li w') => Best_any a l n c ai li ni ci ship t w' HN.out hn13 hc hcm (h.ro HN.out) h.tgo HOK.out HNI.out (by omega) hci hcim (h.ri HNI.out) h.tgi HOKI.out)
  have CO := Lib.hid (fun w' (h : BF w S b1 b2 a n c l ai ni ci li w') => BestOf_any a l n c ai li ni ci ship t w' HN.out hn13 hc hcm (h.ro HN.out) h.tgo HOK.out HNI.out (by omega) hci hcim (h.ri HNI.out) h.tgi HOKI.out)
  obtain ⟨E, hE⟩ : ∃ z, bsE l li ship t = z := ⟨_, rfl⟩
  obtain ⟨SR, hs⟩ : ∃ z, bsR l li ship t = z := ⟨_, rfl⟩
  rw [hE, hs] at CP CO
  rw [hs, HN.out, HNI.out] at HLE
  have HS1 := Lib.hid (show SR.best.length ≤ 1000 ∧ SR.pr.left.length ≤ 1000 ∧ SR.pr.cuts.length ≤ 1000 by have := HLE.out; omega)
  obtain ⟨tt, htt⟩ : ∃ z, SR.pr.ship + SR.pr.left.sum = z := ⟨_, rfl⟩
  have HTT := Lib.hid htt
  obtain ⟨nb, hnb⟩ : ∃ z, SR.best.length = z := ⟨_, rfl⟩
  have HNB := Lib.hid hnb
  clear hE hs HLE HN HOK HNI HOKI htt hnb
  have C1 := Lib.hid (CP.out _ HA4.out)
  obtain ⟨y0, y1⟩ := HQ4.out.at2'
  have hyl := HQ4.out.1
  go_wp2_with fail
  with_reducible refine C1.out.mono ?_
  rintro e w8 ⟨v, u, rfl, ⟨⟨ld, cld, hvd, hD⟩, hP⟩, b8⟩
  have HP8 := Lib.hid hP
  have HD8 := Lib.hid hD
  obtain ⟨la, cl, lc, cc, hv, -⟩ := hP
  rw [HTT.out] at hv
  rw [HNB.out] at hvd
  subst hv hvd
  have HB9 := Lib.hid ((Below.refl w8.heap.size w8).alloc (Nat.le_refl _) (.cells #[.slice la SR.pr.left.length cl, .int .i64 (SR.pr.ship : Int), .slice lc SR.pr.cuts.length cc, .int .i64 (tt : Int)] 42))
  have HA9 := Lib.hid ((HA4.out.below b8).below HB9.out)
  have HQ9 := Lib.hid ((HQ4.out.below b8).below HB9.out)
  have HP9 := Lib.hid (HP8.out.below HB9.out)
  have HD9 := Lib.hid (HD8.out.below HB9.out)
  have HX9 := Lib.hid (XB.new w8 [.slice la SR.pr.left.length cl, .int .i64 (SR.pr.ship : Int), .slice lc SR.pr.cuts.length cc, .int .i64 (tt : Int)] 42)
  simp only [List.toArray] at HX9
  clear HP8 HD8 hD HB9 HA4 HQ4 b8 y0 y1 hyl C1 CP
  go_upto_region 4 with (fail)
  generalize w8.alloc (.cells #[.slice la SR.pr.left.length cl, .int .i64 (SR.pr.ship : Int), .slice lc SR.pr.cuts.length cc, .int .i64 (tt : Int)] 42) = w9 at *
  generalize w8.heap.size = q8 at *
  have C2 := Lib.hid (CO.out _ HA9.out)
  obtain ⟨y0, y1⟩ := HQ9.out.at2'
  have hyl := HQ9.out.1
  go_wp2_with fail
  with_reducible refine C2.out.mono ?_
  rintro e w10 ⟨v, u, rfl, ⟨⟨ld2, cld2, hvd, hD⟩, hP⟩, b10⟩
  have HP10 := Lib.hid hP
  have HD10 := Lib.hid hD
  obtain ⟨la2, cl2, lc2, cc2, hv, -⟩ := hP
  rw [HTT.out] at hv
  rw [HNB.out] at hvd
  subst hv hvd
  have HB11 := Lib.hid ((Below.refl w10.heap.size w10).alloc (Nat.le_refl _) (.cells #[.slice la2 SR.pr.left.length cl2, .int .i64 (SR.pr.ship : Int), .slice lc2 SR.pr.cuts.length cc2, .int .i64 (tt : Int)] 42))
  have HG11 := Lib.hid (HGR.out _ ((HA9.out.below b10).below HB11.out))
  have HPa := Lib.hid ((HP9.out.below b10).below HB11.out)
  have HDa := Lib.hid ((HD9.out.below b10).below HB11.out)
  have HPb := Lib.hid (HP10.out.below HB11.out)
  have HDb := Lib.hid (HD10.out.below HB11.out)
  have HXa := Lib.hid ((HX9.out.below b10).below HB11.out)
  have HXb := Lib.hid (XB.new w10 [.slice la2 SR.pr.left.length cl2, .int .i64 (SR.pr.ship : Int), .slice lc2 SR.pr.cuts.length cc2, .int .i64 (tt : Int)] 42)
  simp only [List.toArray] at HXb
  clear HP9 HP10 HD9 HD10 hD HB11 HA9 HQ9 HX9 b10 y0 y1 hyl C2 CO HGR
  go_upto_region 5 with (fail)
  generalize w10.alloc (.cells #[.slice la2 SR.pr.left.length cl2, .int .i64 (SR.pr.ship : Int), .slice lc2 SR.pr.cuts.length cc2, .int .i64 (tt : Int)] 42) = w11 at *
  generalize w10.heap.size = q10 at *
  have CE := Lib.hid (equal_same w11 (.slice ld nb cld) (.slice ld2 nb cld2) (SR.best.map fun (x : Nat) => (x : Int)) (nats_slice nb cld HNB.out HDa.out) (nats_slice nb cld2 HNB.out HDb.out) (by rw [List.length_map]; have := HS1.out.1; omega))
  have CS := Lib.hid (fun q => samePriced_any (w11.drewN q) _ _ _ _ SR.pr (HPa.out.below (below_drewN (Below.refl _ _) q)) (HPb.out.below (below_drewN (Below.refl _ _) q)) HS1.out.2.1 HS1.out.2.2)
  have hee : (E == E) = true := by simp
  clear HPa HPb HDa HDb HS1
  go_wp2_with fail
  with_reducible refine (offers_any _).mono ?_
  rintro e w12 ⟨rfl, rfl⟩
  go_wp2_with fail
  with_reducible refine CE.out.mono ?_
  rintro e w12 ⟨rfl, q, rfl⟩
  have CS1 := Lib.hid (CS.out q)
  have HF0 := Lib.hid (below_drewN HG11.out q)
  obtain ⟨x0, x1, x2, x3⟩ := (HXa.out.drewN q).at4
  have hxl := (HXa.out.drewN q).1
  obtain ⟨z0, z1, z2, z3⟩ := (HXb.out.drewN q).at4
  have hzl := (HXb.out.drewN q).1
  clear CE CS HG11 HXa HXb
  generalize w11.drewN q = w13 at *
  go_wp2_with fail
  with_reducible refine CS1.out.mono ?_
  rintro e w14 ⟨rfl, b14⟩
  have HF := Lib.hid (HF0.out.trans (b14.mono HF0.out.size))
  clear b14 CS1 x0 x1 x2 x3 hxl z0 z1 z2 z3 hzl HF0
  go_wp2_with fail
  go_ret
  exact ⟨rfl, HF.out⟩
theorem bestChosen_tabs {P : Prop} (_ : P) : True := trivial
end Go.Proofs.YtdefjnefkdemiaaGreatDoor
