/- handlaw1.CondNames (printed by gen_condnames.py). -/
import Derived.Test.YtfdpfkdfglombaaGreatDoorCnCp
import Derived.Test.YtfdpfkdfglombaaGreatDoorCnNm
import Derived.Test.YtfdpfkdfglombaaGreatDoorCnCs
import Derived.Test.YtfdpfkdfglombaaGreatDoorCkPr
import Derived.Test.YtfdpfkdfglombaaGreatDoorCkRf
import Derived.Test.YtfdpfkdfglombaaGreatDoorCkLx
import Derived.Test.YtfdpfkdfglombaaGreatDoorRows
import Derived.Deep.RegionHeld3
set_option linter.unusedVariables false
namespace Go.Proofs.YtfdpfkdfglombaaGreatDoor
open Go.RowKit

theorem equal_same {b1 b2 : Nat} {v1 v2 : Value} {l : List ByteArray} (w : World) (o1 : w.ownsRow b1 9 1 v1 l.length (l.map Value.string)) (o2 : w.ownsRow b2 9 1 v2 l.length (l.map Value.string)) :
    Calls Tryz.prog 20 #[v1, v2] w (BoolO w true) := by
  have hcell : ∀ {b g cap : Nat}, w.ownsRow b 9 1 (.slice (some ⟨g, 0, none⟩) l.length cap) l.length (l.map Value.string) → ∀ j, j < l.length → w.cell? ⟨g, 0 + j, none⟩ = some (.string (l.getD j ByteArray.empty)) := fun h j hj => by
    rw [Nat.zero_add, h.cellAt j (by omega), List.getElem?_map, List.getElem?_eq_getElem hj, List.getD_eq_getElem?_getD, List.getElem?_eq_getElem hj]
    rfl
  have s1 := o1
  have s2 := o2
  rcases o1.2 with ⟨rfl, h0⟩ | ⟨g1, cap1, cur1, rfl, -, -, hn1, hm1, -, -⟩
  · obtain ⟨a, k, rfl⟩ := own_shape o2
    rw [h0]
    refine (Tryz.slices_Equal_string_empty none a 0 0 k w (by omega)).mono ?_
    rintro e w' ⟨rfl, rfl⟩
    exact ⟨rfl, Below.refl _ _⟩
  · have hb : l.length ≤ 9223372036854775807 := Nat.le_trans hn1 hm1
    rcases o2.2 with ⟨rfl, h0⟩ | ⟨g2, cap2, cur2, rfl, -, -, hn2, hm2, -, -⟩
    · rw [h0]
      refine (Tryz.slices_Equal_string_empty (some ⟨g1, 0, none⟩) none cap1 0 0 w (by omega)).mono ?_
      rintro e w' ⟨rfl, rfl⟩
      exact ⟨rfl, Below.refl _ _⟩
    · refine (Tryz.slices_Equal_string g1 0 l.length cap1 g2 0 l.length cap2 l l w (Nat.le_refl _) (Nat.le_refl _) hb hb (hcell s1) (hcell s2)).mono ?_
      rintro e w' ⟨rfl, q, rfl⟩
      exact ⟨by simp, ⟨rfl, rfl, rfl, Nat.le_refl _, fun _ _ => rfl⟩⟩
set_option maxRecDepth 100000 in
set_option maxHeartbeats 16000000 in
theorem condNames_walk (a0 : Option Addr) (len0 cap0 : Nat) (z0 : List Int) (w : World) (w0 : IsRow .i64 w a0 len0 cap0 z0) (ht : Tbs w) :
    Calls Tryz.prog 5 #[.slice a0 len0 cap0] w fun e w' => e = .returned (.bool true) ∧ Below w.heap.size w w' := by
  obtain ⟨S, hBS, hp, s0, g0⟩ := strm_begin w0
  have HT := Lib.hid ht
  clear w0 ht
  go_enter Tryz.func5, Tryz.ntmps5
  go_wp2_with fail
  clear hp
  with_reducible refine (anyCond_any S _ _ s0 (by decide)).mono ?_
  rintro e w1 ⟨d, c, hd, hcs, rfl, hT, -, k1, -⟩
  have hg := grown_trans g0 k1
  have HB1 := Lib.hid (show Below w.heap.size w w1 from ⟨hg.os, hg.tape, hg.output, hg.size, fun i hi => hg.block i hi (by simp; omega)⟩)
  have HT2 := Lib.hid (hT.alloc (.cells c.cells.toArray 30))
  have HO2 := Lib.hid (OB.new w1 c.cells 30)
  have HB2 := Lib.hid (HB1.out.alloc HB1.out.size (.cells c.cells.toArray 30))
  clear hT k1 hg g0 HB1 s0
  unfold Cn.agg
  go_upto_region 3 with (fail)
  rw [show (Obj.cells #[.int .i64 c.nd.kind, .string c.nd.name, .string c.nd.field, .string c.nd.sign, .slice c.nd.va c.nd.vals.length c.nd.vc, .slice c.nd.wa c.nd.whs.length c.nd.wc, .int .i64 c.nd.within, .int .i64 c.nd.number, .slice c.nd.aa c.args.length c.nd.ac] 30) = .cells c.cells.toArray 30 from rfl]
  generalize w1.alloc (.cells c.cells.toArray 30) = w2 at *
  generalize w1.heap.size = qc at *
  have HTB2 := Lib.hid (HT.out.below HB2.out)
  have CN := Lib.hid (fun w h1 h2 => Names_any d c w h1 h2)
  have CM := Lib.hid (fun w h1 h2 => Memory_any d c w h1 h2)
  have CS := Lib.hid (fun w h1 h2 => Cost_any d c w h1 h2)
  have CH := Lib.hid (fun w h1 h2 => Cheap_any d c w h1 h2)
  have CF := Lib.hid (fun w h1 h2 => CondFault_any d c w h1 h2 (by omega) (by omega))
  have CNO := Lib.hid (fun w (h : cnE d c = 0) h1 => NamesOf_any d c w h1 (Fm_of_right d c (right_of h).1).1 (right_of h).2)
  have CMO := Lib.hid (fun w (h : cnE d c = 0) h1 => MemoryOf_any d c w h1 (Fm_of_right d c (right_of h).1).1 (right_of h).2)
  have CSO := Lib.hid (fun w (h : cnE d c = 0) h1 => ((CostOf_any d c w h1 (right_of h).2 (Fm_of_right d c (right_of h).1).1).mono (fun e w' h9 => ⟨(csR_csP d c (Fm_of_right d c (right_of h).1).1) ▸ h9.1, h9.2.below⟩) : Calls Tryz.prog 22 #[c.agg] w (IntO w (csP d c))))
  have CHO := Lib.hid (fun w (h : cnE d c = 0) h1 => cheapOf_any d c w h1 (right_of h).2 (Fm_of_right d c (right_of h).1).1)
  clear hcs hd
  obtain ⟨E, hE⟩ : ∃ z, cnE d c = z := ⟨_, rfl⟩
  rw [hE] at CN CM CS CH CF CNO CMO CSO CHO
  clear hE
  generalize memE d c = M at *
  generalize csP d c = K at *
  generalize srtC (fdT d c) = L1 at *
  generalize srtC (evT d c) = L2 at *
  unfold Cn.agg at CN CM CS CH CF CNO CMO CSO CHO
  have C := Lib.hid (CN.out _ HT2.out HTB2.out)
  have y0 := HO2.out.cell 0 (.int .i64 c.nd.kind) rfl
  have y1 := HO2.out.cell 1 (.string c.nd.name) rfl
  have y2 := HO2.out.cell 2 (.string c.nd.field) rfl
  have y3 := HO2.out.cell 3 (.string c.nd.sign) rfl
  have y4 := HO2.out.cell 4 (.slice c.nd.va c.nd.vals.length c.nd.vc) rfl
  have y5 := HO2.out.cell 5 (.slice c.nd.wa c.nd.whs.length c.nd.wc) rfl
  have y6 := HO2.out.cell 6 (.int .i64 c.nd.within) rfl
  have y7 := HO2.out.cell 7 (.int .i64 c.nd.number) rfl
  have y8 := HO2.out.cell 8 (.slice c.nd.aa c.args.length c.nd.ac) rfl
  have yl := HO2.out.lt
  go_wp2_with fail
  ((with_reducible refine C.out.mono ?_); rintro e w3 ⟨v1, v2, rfl, b3, hr⟩)
  have HR := Lib.hid hr
  have HR3 := Lib.hid (Below.refl w3.heap.size w3)
  have HO3 := Lib.hid (HO2.out.below b3)
  have HT3 := Lib.hid (HT2.out.below b3)
  have HB3 := Lib.hid (HB2.out.trans (b3.mono HB2.out.size))
  have HTB3 := Lib.hid (HT.out.below HB3.out)
  clear hr b3 HO2 HT2 HB2 HTB2 C CN y0 y1 y2 y3 y4 y5 y6 y7 y8 yl
  have C := Lib.hid (CM.out _ HT3.out HTB3.out)
  have y0 := HO3.out.cell 0 (.int .i64 c.nd.kind) rfl
  have y1 := HO3.out.cell 1 (.string c.nd.name) rfl
  have y2 := HO3.out.cell 2 (.string c.nd.field) rfl
  have y3 := HO3.out.cell 3 (.string c.nd.sign) rfl
  have y4 := HO3.out.cell 4 (.slice c.nd.va c.nd.vals.length c.nd.vc) rfl
  have y5 := HO3.out.cell 5 (.slice c.nd.wa c.nd.whs.length c.nd.wc) rfl
  have y6 := HO3.out.cell 6 (.int .i64 c.nd.within) rfl
  have y7 := HO3.out.cell 7 (.int .i64 c.nd.number) rfl
  have y8 := HO3.out.cell 8 (.slice c.nd.aa c.args.length c.nd.ac) rfl
  have yl := HO3.out.lt
  go_wp2_with fail
  ((with_reducible refine C.out.mono ?_); rintro e w4 ⟨rfl, b4⟩)
  obtain ⟨vm, hvm⟩ : ∃ z, (if E = 0 then M else 0) = z := ⟨_, rfl⟩
  rw [hvm]
  have HVM := Lib.hid hvm
  have HR4 := Lib.hid (HR3.out.trans (b4.mono HR3.out.size))
  have HO4 := Lib.hid (HO3.out.below b4)
  have HT4 := Lib.hid (HT3.out.below b4)
  have HB4 := Lib.hid (HB3.out.trans (b4.mono HB3.out.size))
  have HTB4 := Lib.hid (HT.out.below HB4.out)
  clear hvm b4 HO3 HT3 HB3 HTB3 HR3 C CM y0 y1 y2 y3 y4 y5 y6 y7 y8 yl
  have C := Lib.hid (CS.out _ HT4.out HTB4.out)
  have y0 := HO4.out.cell 0 (.int .i64 c.nd.kind) rfl
  have y1 := HO4.out.cell 1 (.string c.nd.name) rfl
  have y2 := HO4.out.cell 2 (.string c.nd.field) rfl
  have y3 := HO4.out.cell 3 (.string c.nd.sign) rfl
  have y4 := HO4.out.cell 4 (.slice c.nd.va c.nd.vals.length c.nd.vc) rfl
  have y5 := HO4.out.cell 5 (.slice c.nd.wa c.nd.whs.length c.nd.wc) rfl
  have y6 := HO4.out.cell 6 (.int .i64 c.nd.within) rfl
  have y7 := HO4.out.cell 7 (.int .i64 c.nd.number) rfl
  have y8 := HO4.out.cell 8 (.slice c.nd.aa c.args.length c.nd.ac) rfl
  have yl := HO4.out.lt
  go_wp2_with fail
  ((with_reducible refine C.out.mono ?_); rintro e w5 ⟨rfl, b5⟩)
  obtain ⟨vk, hvk⟩ : ∃ z, (if E = 0 then K else 0) = z := ⟨_, rfl⟩
  rw [hvk]
  have HVK := Lib.hid hvk
  have HR5 := Lib.hid (HR4.out.trans (b5.mono HR4.out.size))
  have HO5 := Lib.hid (HO4.out.below b5)
  have HT5 := Lib.hid (HT4.out.below b5)
  have HB5 := Lib.hid (HB4.out.trans (b5.mono HB4.out.size))
  have HTB5 := Lib.hid (HT.out.below HB5.out)
  clear hvk b5 HO4 HT4 HB4 HTB4 HR4 C CS y0 y1 y2 y3 y4 y5 y6 y7 y8 yl
  have C := Lib.hid (CH.out _ HT5.out HTB5.out)
  have y0 := HO5.out.cell 0 (.int .i64 c.nd.kind) rfl
  have y1 := HO5.out.cell 1 (.string c.nd.name) rfl
  have y2 := HO5.out.cell 2 (.string c.nd.field) rfl
  have y3 := HO5.out.cell 3 (.string c.nd.sign) rfl
  have y4 := HO5.out.cell 4 (.slice c.nd.va c.nd.vals.length c.nd.vc) rfl
  have y5 := HO5.out.cell 5 (.slice c.nd.wa c.nd.whs.length c.nd.wc) rfl
  have y6 := HO5.out.cell 6 (.int .i64 c.nd.within) rfl
  have y7 := HO5.out.cell 7 (.int .i64 c.nd.number) rfl
  have y8 := HO5.out.cell 8 (.slice c.nd.aa c.args.length c.nd.ac) rfl
  have yl := HO5.out.lt
  go_wp2_with fail
  ((with_reducible refine C.out.mono ?_); rintro e w6 ⟨v, rfl, b6, hX, hZ⟩)
  obtain ⟨x, rfl, hCX⟩ : ∃ x : Cn, v = x.agg ∧ (E = 0 → CopyX d (chC d c) w5 x w6) := by
    by_cases h : E = 0
    · obtain ⟨x, h1, h2⟩ := hX h
      exact ⟨x, h1, fun _ => h2⟩
    · exact ⟨default, hZ h, fun h' => absurd h' h⟩
  have HCX := Lib.hid hCX
  have HR6 := Lib.hid ((HR5.out.trans (b6.mono HR5.out.size)).alloc (HR5.out.trans (b6.mono HR5.out.size)).size (.cells x.cells.toArray 30))
  have HO6 := Lib.hid ((HO5.out.below b6).alloc (.cells x.cells.toArray 30))
  have HX6 := Lib.hid (OB.new w6 x.cells 30)
  have HQ6 := Lib.hid ((Below.refl w6.heap.size w6).alloc (Nat.le_refl _) (.cells x.cells.toArray 30))
  have HT6 := Lib.hid ((HT5.out.below b6).alloc (.cells x.cells.toArray 30))
  have HB6 := Lib.hid ((HB5.out.trans (b6.mono HB5.out.size)).alloc (HB5.out.trans (b6.mono HB5.out.size)).size (.cells x.cells.toArray 30))
  have HTB6 := Lib.hid (HT.out.below HB6.out)
  clear hX hZ hCX b6 HO5 HT5 HB5 HTB5 HR5 C CH y0 y1 y2 y3 y4 y5 y6 y7 y8 yl
  unfold Cn.agg
  go_upto_region 7 with (fail)
  rw [show (Obj.cells #[.int .i64 x.nd.kind, .string x.nd.name, .string x.nd.field, .string x.nd.sign, .slice x.nd.va x.nd.vals.length x.nd.vc, .slice x.nd.wa x.nd.whs.length x.nd.wc, .int .i64 x.nd.within, .int .i64 x.nd.number, .slice x.nd.aa x.args.length x.nd.ac] 30) = .cells x.cells.toArray 30 from rfl]
  generalize w6.alloc (.cells x.cells.toArray 30) = w7 at *
  obtain ⟨qx, hqx⟩ : ∃ z, w6.heap.size = z := ⟨_, rfl⟩
  rw [hqx] at HX6 ⊢
  clear hqx
  have C := Lib.hid (CF.out _ HT6.out HTB6.out)
  have y0 := HO6.out.cell 0 (.int .i64 c.nd.kind) rfl
  have y1 := HO6.out.cell 1 (.string c.nd.name) rfl
  have y2 := HO6.out.cell 2 (.string c.nd.field) rfl
  have y3 := HO6.out.cell 3 (.string c.nd.sign) rfl
  have y4 := HO6.out.cell 4 (.slice c.nd.va c.nd.vals.length c.nd.vc) rfl
  have y5 := HO6.out.cell 5 (.slice c.nd.wa c.nd.whs.length c.nd.wc) rfl
  have y6 := HO6.out.cell 6 (.int .i64 c.nd.within) rfl
  have y7 := HO6.out.cell 7 (.int .i64 c.nd.number) rfl
  have y8 := HO6.out.cell 8 (.slice c.nd.aa c.args.length c.nd.ac) rfl
  have yl := HO6.out.lt
  go_wp2_with fail
  ((with_reducible refine C.out.mono ?_); rintro e w7b ⟨rfl, b7⟩)
  have HR7 := Lib.hid (HR6.out.trans (b7.mono HR6.out.size))
  have HO7 := Lib.hid (HO6.out.below b7)
  have HX7 := Lib.hid (HX6.out.below b7)
  have HQ7 := Lib.hid (HQ6.out.trans (b7.mono HQ6.out.size))
  have HT7 := Lib.hid (HT6.out.below b7)
  have HB7 := Lib.hid (HB6.out.trans (b7.mono HB6.out.size))
  have HTB7 := Lib.hid (HT.out.below HB7.out)
  clear b7 HO6 HX6 HQ6 HT6 HB6 HTB6 HR6 C CF y0 y1 y2 y3 y4 y5 y6 y7 y8 yl
  by_cases h0 : E = 0
  · subst h0
    have HM := Lib.hid (show M = vm from HVM.out ▸ rfl)
    have HK := Lib.hid (show K = vk from HVK.out ▸ rfl)
    obtain rfl := HM.out
    obtain rfl := HK.out
    clear HM HK HVM HVK
    have HXT := Lib.hid ((HCX.out rfl).tr.below HQ7.out)
    have HXE := Lib.hid (HCX.out rfl).sy
    have HL1 := Lib.hid ((HR.out rfl).1.keptB HR7.out)
    have HL2 := Lib.hid ((HR.out rfl).2.keptB HR7.out)
    clear HCX HR HR7 HQ7
    have C := Lib.hid (CNO.out _ rfl HT7.out)
    have y0 := HO7.out.cell 0 (.int .i64 c.nd.kind) rfl
    have y1 := HO7.out.cell 1 (.string c.nd.name) rfl
    have y2 := HO7.out.cell 2 (.string c.nd.field) rfl
    have y3 := HO7.out.cell 3 (.string c.nd.sign) rfl
    have y4 := HO7.out.cell 4 (.slice c.nd.va c.nd.vals.length c.nd.vc) rfl
    have y5 := HO7.out.cell 5 (.slice c.nd.wa c.nd.whs.length c.nd.wc) rfl
    have y6 := HO7.out.cell 6 (.int .i64 c.nd.within) rfl
    have y7 := HO7.out.cell 7 (.int .i64 c.nd.number) rfl
    have y8 := HO7.out.cell 8 (.slice c.nd.aa c.args.length c.nd.ac) rfl
    have yl := HO7.out.lt
    go_wp2_with fail
    ((with_reducible refine C.out.mono ?_); rintro e w8 ⟨r1, r2, rfl, b8, o1, o2⟩)
    have HO8 := Lib.hid (HO7.out.below b8)
    have HX8 := Lib.hid (HX7.out.below b8)
    have HT8 := Lib.hid (HT7.out.below b8)
    have HXT8 := Lib.hid (HXT.out.below b8)
    have HL18 := Lib.hid (HL1.out.keptB b8)
    have HL28 := Lib.hid (HL2.out.keptB b8)
    have HO18 := Lib.hid o1
    have HO28 := Lib.hid o2
    have HB8 := Lib.hid (HB7.out.trans (b8.mono HB7.out.size))
    have HTB8 := Lib.hid (HT.out.below HB8.out)
    clear o1 o2 b8 HO7 HX7 HT7 HXT HL1 HL2 HB7 HTB7 C CNO y0 y1 y2 y3 y4 y5 y6 y7 y8 yl HT
    have CSg := Lib.hid (fun w' (h : Below w8.heap.size w8 w') => segments_any w' (HTB8.out.below h))
    have CE1 := Lib.hid (fun w' (h : Below w8.heap.size w8 w') => equal_same w' (HL18.out.keptB h) (HO18.out.keptB h))
    have CE2 := Lib.hid (fun w' (h : Below w8.heap.size w8 w') => equal_same w' (HL28.out.keptB h) (HO28.out.keptB h))
    have CM2 := Lib.hid (fun w' (h : Below w8.heap.size w8 w') => CMO.out w' (by trivial) (HT8.out.below h))
    have CK2 := Lib.hid (fun w' (h : Below w8.heap.size w8 w') => CSO.out w' (by trivial) (HT8.out.below h))
    have CH2 := Lib.hid (fun w' (h : Below w8.heap.size w8 w') => CHO.out w' (by trivial) (HT8.out.below h))
    have CSm := Lib.hid (fun (y : Cn) w' (h : Below w8.heap.size w8 w') (h1 : TAt d w' y) (h2 : er d y = chC d c) => sameCond_any d x y w' (HXT8.out.below h) h1 (HXE.out.trans h2.symm))
    unfold Cn.agg at CH2 CSm
    clear HT8 HXT8 HL18 HL28 HO18 HO28 HTB8 CMO CSO CHO HXE
    have K0 := Lib.hid (fun w' (hb : Below w8.heap.size w8 w') => (show (w'.cell? ⟨qc, 0, none⟩ = some (.int .i64 c.nd.kind) ∧ w'.cell? ⟨qc, 1, none⟩ = some (.string c.nd.name) ∧ w'.cell? ⟨qc, 2, none⟩ = some (.string c.nd.field) ∧ w'.cell? ⟨qc, 3, none⟩ = some (.string c.nd.sign) ∧ w'.cell? ⟨qc, 4, none⟩ = some (.slice c.nd.va c.nd.vals.length c.nd.vc) ∧ w'.cell? ⟨qc, 5, none⟩ = some (.slice c.nd.wa c.nd.whs.length c.nd.wc) ∧ w'.cell? ⟨qc, 6, none⟩ = some (.int .i64 c.nd.within) ∧ w'.cell? ⟨qc, 7, none⟩ = some (.int .i64 c.nd.number) ∧ w'.cell? ⟨qc, 8, none⟩ = some (.slice c.nd.aa c.args.length c.nd.ac) ∧ w'.cell? ⟨qx, 0, none⟩ = some (.int .i64 x.nd.kind) ∧ w'.cell? ⟨qx, 1, none⟩ = some (.string x.nd.name) ∧ w'.cell? ⟨qx, 2, none⟩ = some (.string x.nd.field) ∧ w'.cell? ⟨qx, 3, none⟩ = some (.string x.nd.sign) ∧ w'.cell? ⟨qx, 4, none⟩ = some (.slice x.nd.va x.nd.vals.length x.nd.vc) ∧ w'.cell? ⟨qx, 5, none⟩ = some (.slice x.nd.wa x.nd.whs.length x.nd.wc) ∧ w'.cell? ⟨qx, 6, none⟩ = some (.int .i64 x.nd.within) ∧ w'.cell? ⟨qx, 7, none⟩ = some (.int .i64 x.nd.number) ∧ w'.cell? ⟨qx, 8, none⟩ = some (.slice x.nd.aa x.args.length x.nd.ac)) ∧ Below w8.heap.size w8 w' from ⟨⟨(HO8.out.below hb).cell 0 _ rfl, (HO8.out.below hb).cell 1 _ rfl, (HO8.out.below hb).cell 2 _ rfl, (HO8.out.below hb).cell 3 _ rfl, (HO8.out.below hb).cell 4 _ rfl, (HO8.out.below hb).cell 5 _ rfl, (HO8.out.below hb).cell 6 _ rfl, (HO8.out.below hb).cell 7 _ rfl, (HO8.out.below hb).cell 8 _ rfl, (HX8.out.below hb).cell 0 _ rfl, (HX8.out.below hb).cell 1 _ rfl, (HX8.out.below hb).cell 2 _ rfl, (HX8.out.below hb).cell 3 _ rfl, (HX8.out.below hb).cell 4 _ rfl, (HX8.out.below hb).cell 5 _ rfl, (HX8.out.below hb).cell 6 _ rfl, (HX8.out.below hb).cell 7 _ rfl, (HX8.out.below hb).cell 8 _ rfl⟩, hb⟩))
    go_upto_region 11 with (fail)
    go_region_held3 (fun w' => (w'.cell? ⟨qc, 0, none⟩ = some (.int .i64 c.nd.kind) ∧ w'.cell? ⟨qc, 1, none⟩ = some (.string c.nd.name) ∧ w'.cell? ⟨qc, 2, none⟩ = some (.string c.nd.field) ∧ w'.cell? ⟨qc, 3, none⟩ = some (.string c.nd.sign) ∧ w'.cell? ⟨qc, 4, none⟩ = some (.slice c.nd.va c.nd.vals.length c.nd.vc) ∧ w'.cell? ⟨qc, 5, none⟩ = some (.slice c.nd.wa c.nd.whs.length c.nd.wc) ∧ w'.cell? ⟨qc, 6, none⟩ = some (.int .i64 c.nd.within) ∧ w'.cell? ⟨qc, 7, none⟩ = some (.int .i64 c.nd.number) ∧ w'.cell? ⟨qc, 8, none⟩ = some (.slice c.nd.aa c.args.length c.nd.ac) ∧ w'.cell? ⟨qx, 0, none⟩ = some (.int .i64 x.nd.kind) ∧ w'.cell? ⟨qx, 1, none⟩ = some (.string x.nd.name) ∧ w'.cell? ⟨qx, 2, none⟩ = some (.string x.nd.field) ∧ w'.cell? ⟨qx, 3, none⟩ = some (.string x.nd.sign) ∧ w'.cell? ⟨qx, 4, none⟩ = some (.slice x.nd.va x.nd.vals.length x.nd.vc) ∧ w'.cell? ⟨qx, 5, none⟩ = some (.slice x.nd.wa x.nd.whs.length x.nd.wc) ∧ w'.cell? ⟨qx, 6, none⟩ = some (.int .i64 x.nd.within) ∧ w'.cell? ⟨qx, 7, none⟩ = some (.int .i64 x.nd.number) ∧ w'.cell? ⟨qx, 8, none⟩ = some (.slice x.nd.aa x.args.length x.nd.ac)) ∧ Below w8.heap.size w8 w')
      (first | assumption | (exact K0.out _ (Below.refl _ _).drew) | (refine K0.out _ (Below.trans (And.right (by assumption)) (hb.mono ?_)); exact (And.right (by assumption) : Below _ _ _).size))
      (first | (go_at_call 9; (with_reducible refine (CSg.out _ (And.right (by assumption))).mono ?_); rintro e w' ⟨rfl, hb⟩) | (go_at_call 20; first | ((with_reducible refine (CE1.out _ (And.right (by assumption))).mono ?_); rintro e w' ⟨rfl, hb⟩) | ((with_reducible refine (CE2.out _ (And.right (by assumption))).mono ?_); rintro e w' ⟨rfl, hb⟩)) | (go_at_call 21; (with_reducible refine (CM2.out _ (And.right (by assumption))).mono ?_); rintro e w' ⟨rfl, hb⟩) | (go_at_call 22; (with_reducible refine (CK2.out _ (And.right (by assumption))).mono ?_); rintro e w' ⟨rfl, hb⟩) | (go_at_call 24; (with_reducible refine (CH2.out _ (And.right (by assumption))).mono ?_); rintro e w' ⟨y, rfl, hyT, hyE, -, hb⟩; unfold Cn.agg) | (go_at_call 23; (with_reducible refine (CSm.out _ _ (And.right (by assumption)) hyT hyE).mono ?_); rintro e w' ⟨rfl, hb⟩))
    all_goals
      have hE : Below w8.heap.size w8 _ := And.right (by assumption)
      have HE := Lib.hid (HB8.out.trans (hE.mono HB8.out.size))
      clear K0
      go_wp2_with fail
      go_ret
      exact ⟨rfl, HE.out⟩
  · have h4 : (E != 0) = true := by simpa using h0
    have C := Lib.hid (segments_any w7b HTB7.out)
    clear HVM HVK HR HCX HR7 HO7 HX7 HQ7 HT7 HTB7 CNO CMO CSO CHO
    go_wp2_with fail
    ((with_reducible refine C.out.mono ?_); rintro e w8 ⟨rfl, b8⟩)
    have HB8 := Lib.hid (HB7.out.trans (b8.mono HB7.out.size))
    clear b8 C HB7
    go_wp2_with fail
    go_ret
    exact ⟨rfl, HB8.out⟩
theorem condNames_tabs {w : World} (h : laidMetH Tryz.prog [("math/bits.deBruijn32tab", Rows.laid_math_bits_deBruijn32tab), ("math/bits.deBruijn64tab", Rows.laid_math_bits_deBruijn64tab), ("internal/strconv.uint64pow10", Rows.laid_internal_strconv_uint64pow10), ("unicode/utf8.acceptRanges", Rows.laid_unicode_utf8_acceptRanges), ("strconv.ErrRange", Rows.laid_strconv_ErrRange), ("strconv.ErrSyntax", Rows.laid_strconv_ErrSyntax), ("unicode.White_Space", Rows.laid_unicode_White_Space), ("strings.asciiSpace", Rows.laid_strings_asciiSpace), ("unicode/utf8.first", Rows.laid_unicode_utf8_first)] w) : Tbs w :=
  tbs_of_laid h (by rw [show (Lib.tabData .u8 Lib.asciiSpaceTab : DataW Unit) = Rows.laid_strings_asciiSpace by kernel_rfl]; exact (.tail _ (.tail _ (.tail _ (.tail _ (.tail _ (.tail _ (.tail _ (.head _)))))))))
    (by rw [show (Lib.firstData : DataW Unit) = Rows.laid_unicode_utf8_first by kernel_rfl]; exact (.tail _ (.tail _ (.tail _ (.tail _ (.tail _ (.tail _ (.tail _ (.tail _ (.head _))))))))))
    (by rw [show (Lib.acceptData : DataW Unit) = Rows.laid_unicode_utf8_acceptRanges by kernel_rfl]; exact (.tail _ (.tail _ (.tail _ (.head _)))))
end Go.Proofs.YtfdpfkdfglombaaGreatDoor
