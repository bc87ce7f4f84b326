/- segment.Print, and handlaw1.CondTexts: Print is as specified. -/
import Derived.Test.YtfdpfkdfglombaaGreatDoorTxTr
import Derived.Test.YtfdpfkdfglombaaGreatDoorTxCt
import Derived.Test.YtfdpfkdfglombaaGreatDoorTyAny
import Derived.Test.YtfdpfkdfglombaaGreatDoorCkPr
import Derived.Test.YtfdpfkdfglombaaGreatDoorCkRf
import Derived.Test.YtfdpfkdfglombaaGreatDoorCkLx
import Derived.Test.YtfdpfkdfglombaaGreatDoorRows
set_option linter.unusedVariables false
namespace Go.Proofs.YtfdpfkdfglombaaGreatDoor
open Go.RowKit

/-- what a right condition has -/
theorem right_of {d : Nat} {c : Cn} {w : World} (hT : TAt d w c) (h : cnE d c = 0) : TxO d c ∧ szN d c ≤ 300 ∧ (txT d c).size ≤ 200000 := by
  have h' : (if 300 < szN d c ∨ 20 < dpN d c then 2 else trE d c) = 0 := h
  by_cases h1 : 300 < szN d c ∨ 20 < dpN d c
  · rw [if_pos h1] at h'; cases h'
  · rw [if_neg h1] at h'
    have hO := TxO_of d w c hT h'
    have hs := txT_size d c hO
    have hz : szN d c ≤ 300 := by omega
    have : 613 * szN d c ≤ 613 * 300 := Nat.mul_le_mul_left _ hz
    exact ⟨hO, hz, by omega⟩
set_option maxRecDepth 100000 in
set_option maxHeartbeats 4000000 in
theorem Print_any (d : Nat) (c : Cn) (w : World) (hT : TAt d w c) (hB : Tbs w) (hp : P10x w) :
    Calls Tryz.prog 12 #[c.agg] w fun e w' => e = .returned (.tuple #[.string (if cnE d c = 0 then txT d c else ⟨#[]⟩), .int .i64 (cnE d c)]) ∧ Below w.heap.size w w' := by
  have CC0 := Lib.hid (fun w h1 h2 => checkCond_any d c w h1 h2)
  have CW0 := Lib.hid (fun h (w : World) h1 h2 => write_any d c w h1 (right_of hT h).1 (Nat.le_trans (right_of hT h).2.1 (by decide)) h2)
  have HS := Lib.hid (fun h => (right_of hT h).2.2)
  generalize txT d c = t at *
  obtain ⟨R, hR⟩ : ∃ z, cnE d c = z := ⟨_, rfl⟩
  rw [hR] at CC0 CW0 HS ⊢
  clear hR
  obtain ⟨tt, htt⟩ : ∃ z, (if R = 0 then t else ⟨#[]⟩) = z := ⟨_, rfl⟩
  rw [htt]
  have HTT := Lib.hid htt
  clear htt
  have HT := Lib.hid hT
  clear hT
  unfold Cn.agg at *
  obtain ⟨n, args⟩ := c
  obtain ⟨kind, name, field, sign, va, vc, vals, wa, wc, whs, within, number, aa, ac⟩ := n
  simp only [Cn.nd, Cn.args] at *
  obtain ⟨nv, hnv⟩ : ∃ z, vals.length = z := ⟨_, rfl⟩
  obtain ⟨nw, hnw⟩ : ∃ z, whs.length = z := ⟨_, rfl⟩
  obtain ⟨na, hna⟩ : ∃ z, args.length = z := ⟨_, rfl⟩
  rw [hnv, hnw, hna] at CC0 CW0 ⊢
  clear hnv hnw hna
  have HX := Lib.hid (XB.new w [.int .i64 kind, .string name, .string field, .string sign, .slice va nv vc, .slice wa nw wc, .int .i64 within, .int .i64 number, .slice aa na ac] 30)
  have HTa := Lib.hid (HT.out.alloc (.cells #[.int .i64 kind, .string name, .string field, .string sign, .slice va nv vc, .slice wa nw wc, .int .i64 within, .int .i64 number, .slice aa na ac] 30))
  have HBa := Lib.hid (hB.alloc (.cells #[.int .i64 kind, .string name, .string field, .string sign, .slice va nv vc, .slice wa nw wc, .int .i64 within, .int .i64 number, .slice aa na ac] 30))
  have HL := Lib.hid ((Below.refl w.heap.size w).alloc (Nat.le_refl _) (.cells #[.int .i64 kind, .string name, .string field, .string sign, .slice va nv vc, .slice wa nw wc, .int .i64 within, .int .i64 number, .slice aa na ac] 30))
  have HP := Lib.hid (p10x_below hp HL.out)
  clear HT hB hp
  have x0 := HX.out.2 0 _ rfl
  have x1 := HX.out.2 1 _ rfl
  have x2 := HX.out.2 2 _ rfl
  have x3 := HX.out.2 3 _ rfl
  have x4 := HX.out.2 4 _ rfl
  have x5 := HX.out.2 5 _ rfl
  have x6 := HX.out.2 6 _ rfl
  have x7 := HX.out.2 7 _ rfl
  have x8 := HX.out.2 8 _ rfl
  have xl := HX.out.1
  go_enter Tryz.func12, Tryz.ntmps12
  go_wp2_with fail
  ((with_reducible refine (CC0.out _ HTa.out HBa.out).mono ?_); rintro e w1 ⟨rfl, hb⟩)
  have HX1 := Lib.hid (HX.out.below hb)
  have HT1 := Lib.hid (HTa.out.below hb)
  have HP1 := Lib.hid (p10x_below HP.out hb)
  have HL1 := Lib.hid (HL.out.trans (hb.mono HL.out.size))
  clear hb HX HTa HBa HL HP CC0 x0 x1 x2 x3 x4 x5 x6 x7 x8 xl
  by_cases h : R = 0
  · subst h
    obtain rfl := HTT.out
    have hts := HS.out rfl
    have CW := Lib.hid (CW0.out rfl _ HT1.out HP1.out)
    have x0 := HX1.out.2 0 _ rfl
    have x1 := HX1.out.2 1 _ rfl
    have x2 := HX1.out.2 2 _ rfl
    have x3 := HX1.out.2 3 _ rfl
    have x4 := HX1.out.2 4 _ rfl
    have x5 := HX1.out.2 5 _ rfl
    have x6 := HX1.out.2 6 _ rfl
    have x7 := HX1.out.2 7 _ rfl
    have x8 := HX1.out.2 8 _ rfl
    have xl := HX1.out.1
    clear HX1 HT1 HP1 HS CW0
    go_wp2_with fail
    ((with_reducible refine CW.out.mono ?_); rintro e w2 ⟨rfl, hb⟩)
    have HL2 := Lib.hid (HL1.out.trans (hb.mono HL1.out.size))
    clear hb x0 x1 x2 x3 x4 x5 x6 x7 x8 xl
    have hz : ¬ ((200000 : Int) < (t.size : Int)) := by omega
    go_wp2_with fail
    go_ret2
    exact ⟨rfl, HL2.out⟩
  · have hf : (R != 0) = true := by simpa using h
    obtain rfl : ⟨#[]⟩ = tt := (if_neg h).symm.trans HTT.out
    clear HX1 HT1 HP1 HS CW0 HTT
    go_wp2_with fail
    go_ret2
    exact ⟨rfl, HL1.out⟩

set_option maxRecDepth 100000 in
set_option maxHeartbeats 16000000 in
theorem condTexts_walk (a0 : Option Addr) (len0 cap0 : Nat) (z0 : List Int) (w : World) (w0 : IsRow .i64 w a0 len0 cap0 z0) (ht : Tbs w ∧ P10x w) :
    Calls Tryz.prog 4 #[.slice a0 len0 cap0] w fun e w' => e = .returned (.bool true) ∧ Below w.heap.size w w' := by
  obtain ⟨S, hBS, hp, s0, g0⟩ := strm_begin w0
  have HT := Lib.hid ht.1
  have HP := Lib.hid ht.2
  clear w0 ht
  go_enter Tryz.func4, Tryz.ntmps4
  go_wp2_with fail
  clear hp
  with_reducible refine (anyCondT_any S _ _ s0 (by decide)).mono ?_
  rintro e w1 ⟨d, c, hd, hcs, rfl, hT, hFar, k1, s1⟩
  have hg := grown_trans g0 k1
  clear k1 g0 s0
  unfold Cn.agg
  have HB1 := Lib.hid (show Below w.heap.size w w1 from ⟨hg.os, hg.tape, hg.output, hg.size, fun i hi => hg.block i hi (by simp; omega)⟩)
  have HT2 := Lib.hid (hT.alloc (.cells c.cells.toArray 30))
  have HO2 := Lib.hid (OB.new w1 c.cells 30)
  have HB2 := Lib.hid (HB1.out.alloc HB1.out.size (.cells c.cells.toArray 30))
  clear hg s1 HB1 hFar hT
  go_upto_region 3 with (fail)
  rw [show (Obj.cells #[.int .i64 c.nd.kind, .string c.nd.name, .string c.nd.field, .string c.nd.sign, .slice c.nd.va c.nd.vals.length c.nd.vc, .slice c.nd.wa c.nd.whs.length c.nd.wc, .int .i64 c.nd.within, .int .i64 c.nd.number, .slice c.nd.aa c.args.length c.nd.ac] 30) = .cells c.cells.toArray 30 from rfl]
  generalize w1.alloc (.cells c.cells.toArray 30) = w8 at *
  generalize w1.heap.size = qc at *
  have HTB8 := Lib.hid (HT.out.below HB2.out)
  have HP8 := Lib.hid (p10x_below HP.out HB2.out)
  have CP := Lib.hid (Print_any d c w8 HT2.out HTB8.out HP8.out)
  have CF := Lib.hid (fun w' (h : Below w8.heap.size w8 w') => CondFault_any d c w' (HT2.out.below h) (HTB8.out.below h) (by omega) (by omega))
  have CX := Lib.hid (fun hh w' (h : Below w8.heap.size w8 w') => CondText_any d c w' (HT2.out.below h) (right_of HT2.out hh).1 (Nat.le_trans (right_of HT2.out hh).2.1 (by decide)) (p10x_below HP8.out h))
  have CSg := Lib.hid (fun w' (h : Below w8.heap.size w8 w') => segments_any w' (HTB8.out.below h))
  have K0 := Lib.hid (fun w' (hb : Below w8.heap.size w8 w') => (show qc < w'.heap.size ∧ w'.cell? ⟨qc, 0, none⟩ = some (.int .i64 c.nd.kind) ∧ w'.cell? ⟨qc, 1, none⟩ = some (.string c.nd.name) ∧ w'.cell? ⟨qc, 2, none⟩ = some (.string c.nd.field) ∧ w'.cell? ⟨qc, 3, none⟩ = some (.string c.nd.sign) ∧ w'.cell? ⟨qc, 4, none⟩ = some (.slice c.nd.va c.nd.vals.length c.nd.vc) ∧ w'.cell? ⟨qc, 5, none⟩ = some (.slice c.nd.wa c.nd.whs.length c.nd.wc) ∧ w'.cell? ⟨qc, 6, none⟩ = some (.int .i64 c.nd.within) ∧ w'.cell? ⟨qc, 7, none⟩ = some (.int .i64 c.nd.number) ∧ w'.cell? ⟨qc, 8, none⟩ = some (.slice c.nd.aa c.args.length c.nd.ac) from ⟨(HO2.out.below hb).lt, (HO2.out.below hb).cell 0 _ rfl, (HO2.out.below hb).cell 1 _ rfl, (HO2.out.below hb).cell 2 _ rfl, (HO2.out.below hb).cell 3 _ rfl, (HO2.out.below hb).cell 4 _ rfl, (HO2.out.below hb).cell 5 _ rfl, (HO2.out.below hb).cell 6 _ rfl, (HO2.out.below hb).cell 7 _ rfl, (HO2.out.below hb).cell 8 _ rfl⟩))
  generalize txT d c = t at *
  generalize cnE d c = R at *
  obtain ⟨tt, htt⟩ : ∃ z, (if R = 0 then t else ⟨#[]⟩) = z := ⟨_, rfl⟩
  rw [htt] at CP
  have HTT := Lib.hid htt
  clear htt
  unfold Cn.agg at CP CF CX
  clear HT2 HTB8 HP8 HT HP hcs hd HO2
  generalize c.nd.kind = kind, c.nd.name = name, c.nd.field = field, c.nd.sign = sign, c.nd.va = va, c.nd.vals.length = nv, c.nd.vc = vc, c.nd.wa = wa, c.nd.whs.length = nw, c.nd.wc = wc, c.nd.within = within, c.nd.number = number, c.nd.aa = aa, c.args.length = na, c.nd.ac = ac at *
  obtain ⟨xl, x0, x1, x2, x3, x4, x5, x6, x7, x8⟩ := K0.out w8 (Below.refl _ _)
  go_wp2_with fail
  ((with_reducible refine CP.out.mono ?_); rintro e w2 ⟨rfl, hb⟩)
  have H2 := Lib.hid hb
  clear hb xl x0 x1 x2 x3 x4 x5 x6 x7 x8 CP
  obtain ⟨xl, x0, x1, x2, x3, x4, x5, x6, x7, x8⟩ := K0.out w2 H2.out
  go_wp2_with fail
  ((with_reducible refine (CF.out _ H2.out).mono ?_); rintro e w3 ⟨rfl, hb⟩)
  have H3 := Lib.hid (H2.out.trans (hb.mono H2.out.size))
  clear hb xl x0 x1 x2 x3 x4 x5 x6 x7 x8 CF H2
  by_cases h : R = 0
  · subst h
    obtain rfl : t = tt := (if_pos rfl).symm.trans HTT.out
    go_wp2_with fail
    ((with_reducible refine (CSg.out _ H3.out).mono ?_); rintro e w4 ⟨rfl, hb⟩)
    have H4 := Lib.hid (H3.out.trans (hb.mono H3.out.size))
    clear hb H3 CSg
    obtain ⟨xl, x0, x1, x2, x3, x4, x5, x6, x7, x8⟩ := K0.out w4 H4.out
    go_wp2_with fail
    ((with_reducible refine (CX.out (by simp) _ H4.out).mono ?_); rintro e w5 ⟨rfl, hb⟩)
    have H5 := Lib.hid (HB2.out.trans ((H4.out.trans (hb.mono H4.out.size)).mono HB2.out.size))
    clear hb H4 CX K0 xl x0 x1 x2 x3 x4 x5 x6 x7 x8
    go_wp2_with fail
    go_ret
    exact ⟨rfl, H5.out⟩
  · have hf : (R != 0) = true := by simpa using h
    go_wp2_with fail
    ((with_reducible refine (CSg.out _ H3.out).mono ?_); rintro e w4 ⟨rfl, hb⟩)
    have H5 := Lib.hid (HB2.out.trans ((H3.out.trans (hb.mono H3.out.size)).mono HB2.out.size))
    clear hb H3 CSg CX K0
    go_wp2_with fail
    go_ret
    exact ⟨rfl, H5.out⟩
theorem p10x_of_laid {l : List (String × DataW Unit)} {w : World} (h : laidMetH Tryz.prog l w) (h1 : ("internal/strconv.uint64pow10", Lib.tabData .u64 Lib.pow10Tab) ∈ l) : P10x w := by
  have hd := (laidMetH_iff.1 h).1
  obtain ⟨g, t, cs, fuel, p, e1, e2, e3, e4⟩ := Lib.laidMet.reads hd (List.mem_filter.2 ⟨h1, rfl⟩)
  obtain rfl := Option.some.inj ((show Tryz.prog.globalNamed "internal/strconv.uint64pow10" = some 2 by kernel_rfl).symm.trans e1)
  obtain rfl := Option.some.inj ((show (Tryz.prog.globals[2]?).map (·.type) = some 254 by kernel_rfl).symm.trans e2)
  unfold P10x Lib.TabIs
  rw [e3, ← Lib.cells_of_tab (n := 20) (e := 187) (by kernel_rfl) (by kernel_rfl) (by kernel_rfl) (by kernel_rfl) e4]
theorem condTexts_tabs {w : World} (h : laidMetH Tryz.prog [("math/bits.deBruijn32tab", Rows.laid_math_bits_deBruijn32tab), ("math/bits.deBruijn64tab", Rows.laid_math_bits_deBruijn64tab), ("internal/strconv.uint64pow10", Rows.laid_internal_strconv_uint64pow10), ("unicode/utf8.acceptRanges", Rows.laid_unicode_utf8_acceptRanges), ("strconv.ErrRange", Rows.laid_strconv_ErrRange), ("strconv.ErrSyntax", Rows.laid_strconv_ErrSyntax), ("unicode.White_Space", Rows.laid_unicode_White_Space), ("strings.asciiSpace", Rows.laid_strings_asciiSpace), ("unicode/utf8.first", Rows.laid_unicode_utf8_first)] w) : Tbs w ∧ P10x w :=
  ⟨tbs_of_laid h (by rw [show (Lib.tabData .u8 Lib.asciiSpaceTab : DataW Unit) = Rows.laid_strings_asciiSpace by kernel_rfl]; exact (.tail _ (.tail _ (.tail _ (.tail _ (.tail _ (.tail _ (.tail _ (.head _)))))))))
    (by rw [show (Lib.firstData : DataW Unit) = Rows.laid_unicode_utf8_first by kernel_rfl]; exact (.tail _ (.tail _ (.tail _ (.tail _ (.tail _ (.tail _ (.tail _ (.tail _ (.head _))))))))))
    (by rw [show (Lib.acceptData : DataW Unit) = Rows.laid_unicode_utf8_acceptRanges by kernel_rfl]; exact (.tail _ (.tail _ (.tail _ (.head _))))),
   p10x_of_laid h (by rw [show (Lib.tabData .u64 Lib.pow10Tab : DataW Unit) = Rows.laid_internal_strconv_uint64pow10 by kernel_rfl]; exact (.tail _ (.tail _ (.head _))))⟩
end Go.Proofs.YtfdpfkdfglombaaGreatDoor
