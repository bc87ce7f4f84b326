/- The walk of the statement FractionsWritten. -/
import Derived.Test.YtdnikegakcdcnaaDoorRow
import Derived.Test.YtdnikegakcdcnaaDoorRows
import Derived.Test.YtdnikegakcdcnaaDoorRange
import Derived.Test.YtdnikegakcdcnaaDoorFraction
import Derived.Test.YtdnikegakcdcnaaDoorPercent
import Derived.Test.YtdnikegakcdcnaaDoorPercentOf
import Derived.Test.YtdnikegakcdcnaaDoorMeasures
import Derived.Lib.LaidTab
import Derived.Lib.ItoaNum
import Derived.LaidMore
set_option linter.unusedVariables false
namespace Go.Proofs.YtdnikegakcdcnaaDoor
open Go.RowKit

theorem fractionsWritten_tabs {W : World} (h : laidMetH Tryd.prog [("math/bits.deBruijn32tab", Rows.laid_math_bits_deBruijn32tab), ("math/bits.deBruijn64tab", Rows.laid_math_bits_deBruijn64tab), ("internal/strconv.uint64pow10", Rows.laid_internal_strconv_uint64pow10)] W) :
    Lib.TabIs Tryd.prog W "internal/strconv.uint64pow10" .u64 Lib.pow10Tab := by
  rw [MakeChecks.laidMetH_plain _ _ _ (by kernel_rfl)] at h
  obtain ⟨ps, ⟨g0, t0, cs0, f0, p0, q0, hg0, ht0, hv0, hd0, ⟨g1, t1, cs1, f1, p1, q1, hg1, ht1, hv1, hd1, ⟨g2, t2, cs2, f2, p2, q2, hg2, ht2, hv2, hd2, _, _⟩, _⟩, _⟩, _, _⟩ := h
  obtain rfl := Option.some.inj ((show Tryd.prog.globalNamed "internal/strconv.uint64pow10" = some 3 by kernel_rfl).symm.trans hg2)
  obtain rfl := Option.some.inj ((show (Tryd.prog.globals[3]?).map (·.type) = some 253 by kernel_rfl).symm.trans ht2)
  have hd3 : DataW.trod _ Tryd.prog W _ _ _ f2 253 cs2.toList = some (Lib.tabData .u64 Lib.pow10Tab, p2) := hd2
  unfold Lib.TabIs
  rw [hv2, ← Lib.cells_of_tab Tryd.underlying253 Tryd.underlying139 (by kernel_rfl) (by kernel_rfl) hd3]

set_option maxRecDepth 100000 in
set_option maxHeartbeats 4000000 in
theorem fractionsWritten_walk (a0 : Option Addr) (len0 cap0 : Nat) (z0 : List Int) (w : World) (w0 : IsRow .i64 w a0 len0 cap0 z0) (ht : Lib.TabIs Tryd.prog w "internal/strconv.uint64pow10" .u64 Lib.pow10Tab) :
    Calls Tryd.prog 9 #[.slice a0 len0 cap0] w fun e w' => e = .returned (.bool true) ∧ Below w.heap.size w w' := by
  obtain ⟨S, hBS, hp, s0, g0⟩ := strm_begin w0
  clear w0
  go_enter Tryd.func9, Tryd.ntmps9
  go_wp2_with fail
  clear hp
  with_reducible refine (fraction_any S _ _ s0 (by omega)).mono ?_
  rintro e w1 ⟨n, d, ⟨hn1, hn2⟩, ⟨hd1, hd2⟩, rfl, k1, s1⟩
  have g1 := grown_trans g0 k1
  clear k1 g0 s0
  go_wp2_with fail
  with_reducible refine (range_any S _ _ _ _ s1 (by omega) (by omega) (by omega) (by omega)).mono ?_
  rintro e w2 ⟨pl, hpl, rfl, k2, s2⟩
  have g2 := grown_trans g1 k2
  have HB2 := Lib.hid (below_of_grown g2 hBS)
  have HT2 := Lib.hid (p10_below ht HB2.out)
  clear k2 g1 s1 s2 g2
  go_wp2_with fail
  have HT3 := Lib.hid (Lib.tabIs_alloc HT2.out (.cells #[.int .i64 n, .int .i64 d] 117))
  have HB3 := Lib.hid (HB2.out.alloc HB2.out.size (.cells #[.int .i64 n, .int .i64 d] 117))
  have C1 := Lib.hid (Percent_any n d pl _ hn1 hn2 hd1 hd2 HT3.out)
  have C2 := Lib.hid (fun w (h : P10 w) => PercentOf_any n d pl w hn1 hn2 hd1 hd2 h)
  unfold PctOut at C1 C2
  generalize pcT n d pl = tt at *
  generalize pcE n d pl = ee at *
  with_reducible refine C1.out.mono ?_
  rintro e w3 ⟨rfl, b3⟩
  have hc0 := b3.cell (p := ⟨w2.heap.size, 0, none⟩) (by simp)
  have hc1 := b3.cell (p := ⟨w2.heap.size, 1, none⟩) (by simp)
  simp at hc0 hc1
  have HT4 := Lib.hid (p10_below HT3.out b3)
  have HB4 := Lib.hid (HB3.out.trans (b3.mono HB3.out.size))
  clear b3 HT3 HB3 HT2 HB2 C1
  go_wp2_with fail
  with_reducible refine (C2.out _ HT4.out).mono ?_
  rintro e w4 ⟨rfl, b4⟩
  have HB5 := Lib.hid (HB4.out.trans (b4.mono HB4.out.size))
  clear b4 HT4 HB4 C2 hc0 hc1
  go_wp2_with fail
  with_reducible refine (measures_any _).mono ?_
  rintro e w5 ⟨rfl, b5⟩
  have HB6 := Lib.hid (HB5.out.trans (b5.mono HB5.out.size))
  clear b5 HB5
  go_wp2
  go_ret
  exact ⟨rfl, HB6.out⟩
end Go.Proofs.YtdnikegakcdcnaaDoor
