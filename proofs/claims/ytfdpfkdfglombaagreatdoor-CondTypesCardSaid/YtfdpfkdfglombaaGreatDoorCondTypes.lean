/- handlaw1.CondTypes: Check is as specified. -/
import Derived.Test.YtfdpfkdfglombaaGreatDoorCtA
import Derived.Test.YtfdpfkdfglombaaGreatDoorCtB
import Derived.Test.YtfdpfkdfglombaaGreatDoorCkPr
import Derived.Test.YtfdpfkdfglombaaGreatDoorCkRf
import Derived.Test.YtfdpfkdfglombaaGreatDoorCkLx
import Derived.Test.YtfdpfkdfglombaaGreatDoorRows
import Derived.Deep.RegionHeld3
set_option linter.unusedVariables false
namespace Go.Proofs.YtfdpfkdfglombaaGreatDoor
open Go.RowKit

set_option maxRecDepth 100000 in
set_option maxHeartbeats 16000000 in
theorem condTypes_walk (a0 : Option Addr) (len0 cap0 : Nat) (z0 : List Int) (w : World) (w0 : IsRow .i64 w a0 len0 cap0 z0) (ht : Tbs w) :
    Calls Tryz.prog 3 #[.slice a0 len0 cap0] w fun e w' => e = .returned (.bool true) ∧ Below w.heap.size w w' := by
  obtain ⟨S, hBS, hp, s0, g0⟩ := strm_begin w0
  have HT := Lib.hid ht
  clear w0 ht
  go_enter Tryz.func3, Tryz.ntmps3
  go_wp2_with fail
  clear hp
  with_reducible refine (anyCondT_any S _ _ s0 (by decide)).mono ?_
  rintro e w1 ⟨d, c, hd, hcs, rfl, hT, hFar, k1, s1⟩
  have hg1 := grown_trans g0 k1
  clear k1 g0 s0
  unfold Cn.agg
  go_wp2_with fail
  with_reducible refine (Needs_any S _ _ s1 (by decide)).mono ?_
  rintro e w2 ⟨fa, fc, f, ⟨hfl, hfo⟩, rfl, hFR, -, -, hff, k2, s2⟩
  have hT2 := hT.kept k2 (fun g e => by obtain rfl := Option.some.inj e; exact hFar)
  have hg2 := grown_trans hg1 k2
  clear k2 hg1 s1 hT
  go_wp2_with fail
  with_reducible refine (Schemes_any S _ _ s2 (by decide)).mono ?_
  rintro e w3 ⟨sa, sc, l, hl3, rfl, hSR, hSx, -, -, hsf, k3, s3⟩
  have hT3 := hT2.kept k3 (fun g e => by obtain rfl := Option.some.inj e; exact hFar)
  have hFR3 := hFR.kept k3 (fun g e => by obtain rfl := Option.some.inj e; exact fun _ p off e => hff p off e)
  have hg := grown_trans hg2 k3
  have HNF : Hid (NnL w3 fa f) := Lib.hid ⟨hFR3, hfo, by omega⟩
  have HSM := Lib.hid (GenM.sml hSR hSx hl3)
  have HB1 := Lib.hid (show Below w.heap.size w w3 from ⟨hg.os, hg.tape, hg.output, hg.size, fun i hi => hg.block i hi (by simp; omega)⟩)
  have HT2 := Lib.hid (hT3.alloc (.cells c.cells.toArray 30))
  have HO2 := Lib.hid (OB.new w3 c.cells 30)
  have HB2 := Lib.hid (HB1.out.alloc HB1.out.size (.cells c.cells.toArray 30))
  have HNF2 := Lib.hid (HNF.out.alloc (.cells c.cells.toArray 30))
  have HSM2 := Lib.hid (HSM.out.alloc (.cells c.cells.toArray 30))
  clear hT2 hT3 hFR hFR3 k3 hg2 hg s2 s3 hSR hSx hff hsf HB1 HNF HSM hfo hFar
  obtain ⟨nf, hnf⟩ : ∃ z, f.length = z := ⟨_, rfl⟩
  obtain ⟨ns, hns⟩ : ∃ z, l.length = z := ⟨_, rfl⟩
  rw [hnf, hns]
  go_upto_region 3 with (fail)
  rw [show (Obj.cells #[.int .i64 c.nd.kind, .string c.nd.name, .string c.nd.field, .string c.nd.sign, .slice c.nd.va c.nd.vals.length c.nd.vc, .slice c.nd.wa c.nd.whs.length c.nd.wc, .int .i64 c.nd.within, .int .i64 c.nd.number, .slice c.nd.aa c.args.length c.nd.ac] 30) = .cells c.cells.toArray 30 from rfl]
  generalize w3.alloc (.cells c.cells.toArray 30) = w8 at *
  generalize w3.heap.size = qc at *
  have HTB8 := Lib.hid (HT.out.below HB2.out)
  have CC := Lib.hid (fun w h1 h2 h3 h4 => Check_any d c fa f nf fc sa l ns sc w h1 h2 hnf hns h3 h4)
  have CF := Lib.hid (fun w h1 h2 h3 h4 => TypeFault_any d c fa f nf fc sa l ns sc w h1 h2 (by omega) (by omega) hnf hns h3 h4)
  generalize tyE f l d c = R at *
  unfold Cn.agg at CC CF
  have CSg := Lib.hid (fun w' (h : Below w8.heap.size w8 w') => segments_any w' (HTB8.out.below h))
  have CC1 := Lib.hid (fun w' (h : Below w8.heap.size w8 w') => CC.out w' (HT2.out.below h) (HTB8.out.below h) (HNF2.out.below h) (HSM2.out.below h))
  have CF1 := Lib.hid (fun w' (h : Below w8.heap.size w8 w') => CF.out w' (HT2.out.below h) (HTB8.out.below h) (HNF2.out.below h) (HSM2.out.below h))
  clear CC CF HT2 HTB8 HNF2 HSM2 HT hcs hd hnf hns hfl hl3
  have K0 := Lib.hid (fun w' (hb : Below w8.heap.size w8 w') => (show (w'.cell? ⟨qc, 0, none⟩ = some (.int .i64 c.nd.kind) ∧ w'.cell? ⟨qc, 1, none⟩ = some (.string c.nd.name) ∧ w'.cell? ⟨qc, 2, none⟩ = some (.string c.nd.field) ∧ w'.cell? ⟨qc, 3, none⟩ = some (.string c.nd.sign) ∧ w'.cell? ⟨qc, 4, none⟩ = some (.slice c.nd.va c.nd.vals.length c.nd.vc) ∧ w'.cell? ⟨qc, 5, none⟩ = some (.slice c.nd.wa c.nd.whs.length c.nd.wc) ∧ w'.cell? ⟨qc, 6, none⟩ = some (.int .i64 c.nd.within) ∧ w'.cell? ⟨qc, 7, none⟩ = some (.int .i64 c.nd.number) ∧ w'.cell? ⟨qc, 8, none⟩ = some (.slice c.nd.aa c.args.length c.nd.ac)) ∧ Below w8.heap.size w8 w' from ⟨⟨(HO2.out.below hb).cell 0 _ rfl, (HO2.out.below hb).cell 1 _ rfl, (HO2.out.below hb).cell 2 _ rfl, (HO2.out.below hb).cell 3 _ rfl, (HO2.out.below hb).cell 4 _ rfl, (HO2.out.below hb).cell 5 _ rfl, (HO2.out.below hb).cell 6 _ rfl, (HO2.out.below hb).cell 7 _ rfl, (HO2.out.below hb).cell 8 _ rfl⟩, hb⟩))
  go_region_held3 (fun w' => (w'.cell? ⟨qc, 0, none⟩ = some (.int .i64 c.nd.kind) ∧ w'.cell? ⟨qc, 1, none⟩ = some (.string c.nd.name) ∧ w'.cell? ⟨qc, 2, none⟩ = some (.string c.nd.field) ∧ w'.cell? ⟨qc, 3, none⟩ = some (.string c.nd.sign) ∧ w'.cell? ⟨qc, 4, none⟩ = some (.slice c.nd.va c.nd.vals.length c.nd.vc) ∧ w'.cell? ⟨qc, 5, none⟩ = some (.slice c.nd.wa c.nd.whs.length c.nd.wc) ∧ w'.cell? ⟨qc, 6, none⟩ = some (.int .i64 c.nd.within) ∧ w'.cell? ⟨qc, 7, none⟩ = some (.int .i64 c.nd.number) ∧ w'.cell? ⟨qc, 8, none⟩ = some (.slice c.nd.aa c.args.length c.nd.ac)) ∧ Below w8.heap.size w8 w')
    (first | assumption | (exact K0.out _ (Below.refl _ _).drew) | (refine K0.out _ (Below.trans (And.right (by assumption)) (hb.mono ?_)); exact (And.right (by assumption) : Below _ _ _).size))
    (first | (go_at_call 9; (with_reducible refine (CSg.out _ (And.right (by assumption))).mono ?_); rintro e w' ⟨rfl, hb⟩) | (go_at_call 10; (with_reducible refine (CC1.out _ (And.right (by assumption))).mono ?_); rintro e w' ⟨rfl, hb⟩) | (go_at_call 11; (with_reducible refine (CF1.out _ (And.right (by assumption))).mono ?_); rintro e w' ⟨rfl, hb⟩))
  all_goals
    have hE : Below w8.heap.size w8 _ := And.right (by assumption)
    have HE := Lib.hid (HB2.out.trans (hE.mono HB2.out.size))
    clear K0
    go_wp2_with fail
    go_ret
    exact ⟨rfl, HE.out⟩
theorem condTypes_tabs {w : World} (h : laidMetH Tryz.prog [("math/bits.deBruijn32tab", Rows.laid_math_bits_deBruijn32tab), ("math/bits.deBruijn64tab", Rows.laid_math_bits_deBruijn64tab), ("internal/strconv.uint64pow10", Rows.laid_internal_strconv_uint64pow10), ("unicode/utf8.acceptRanges", Rows.laid_unicode_utf8_acceptRanges), ("strconv.ErrRange", Rows.laid_strconv_ErrRange), ("strconv.ErrSyntax", Rows.laid_strconv_ErrSyntax), ("unicode.White_Space", Rows.laid_unicode_White_Space), ("strings.asciiSpace", Rows.laid_strings_asciiSpace), ("unicode/utf8.first", Rows.laid_unicode_utf8_first)] w) : Tbs w :=
  tbs_of_laid h (by rw [show (Lib.tabData .u8 Lib.asciiSpaceTab : DataW Unit) = Rows.laid_strings_asciiSpace by kernel_rfl]; exact (.tail _ (.tail _ (.tail _ (.tail _ (.tail _ (.tail _ (.tail _ (.head _)))))))))
    (by rw [show (Lib.firstData : DataW Unit) = Rows.laid_unicode_utf8_first by kernel_rfl]; exact (.tail _ (.tail _ (.tail _ (.tail _ (.tail _ (.tail _ (.tail _ (.tail _ (.head _))))))))))
    (by rw [show (Lib.acceptData : DataW Unit) = Rows.laid_unicode_utf8_acceptRanges by kernel_rfl]; exact (.tail _ (.tail _ (.tail _ (.head _)))))
end Go.Proofs.YtfdpfkdfglombaaGreatDoor
