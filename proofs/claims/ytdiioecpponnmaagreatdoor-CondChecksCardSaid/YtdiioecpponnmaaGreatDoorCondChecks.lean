/- handlaw1.CondChecks. -/
import Derived.Test.YtdiioecpponnmaaGreatDoorCCond
import Derived.Test.YtdiioecpponnmaaGreatDoorSpoil
import Derived.Test.YtdiioecpponnmaaGreatDoorCkSe
import Derived.Test.YtdiioecpponnmaaGreatDoorCkRf
import Derived.Test.YtdiioecpponnmaaGreatDoorCkLx
import Derived.Test.YtdiioecpponnmaaGreatDoorRows
set_option linter.unusedVariables false
namespace Go.Proofs.YtdiioecpponnmaaGreatDoor
open Go.RowKit

/-- a guarded operation whose guard is true -/
theorem wpOp_ward {P : Program} {ops : Array Oper} {Q : Exit → Act → World → Prop} {i : Nat} {o : Oper} {K : Act → World → Prop} {a : Act} {w : World} (hi : ops[i]? = some o) (hw : Region.wanted o (yielded ops a.tmps) = true)
    (h : ∀ (K' : Act → World → Prop) (Q' : Exit → Act → World → Prop), (∀ a' w', K a' w' → K' a' w') → Oper.wp P o a w K' Q') : wpOp P ops Q i K a w := by
  unfold wpOp
  rw [hi]
  simp only [hw, if_true]
  exact Or.inl (h K Q fun _ _ h => h)
structure JCk (w0 : World) (q d : Nat) (c : Cn) (b : Msk) (v : Nat → Value) (wr : World) : Prop where
  tr : TAt d wr c
  bx : OB wr q c.cells 30
  bl : Below w0.heap.size w0 wr
  p2 : b 2 = true → v 18 = c.agg
  p3 : b 3 = true → v 19 = .int .i64 (cnE d c)
  p4 : b 4 = true → v 20 = c.agg
set_option maxRecDepth 100000 in
set_option maxHeartbeats 4000000 in
theorem condChecks_walk (a0 : Option Addr) (len0 cap0 : Nat) (z0 : List Int) (w : World) (w0 : IsRow .i64 w a0 len0 cap0 z0) (ht : Tbs w) :
    Calls Tryz.prog 3 #[.slice a0 len0 cap0] w fun e w' => e = .returned (.bool true) ∧ Below w.heap.size w w' := by
  obtain ⟨S, hBS, hp, s0, g0⟩ := strm_begin w0
  have HT := Lib.hid ht
  clear w0 ht
  go_enter Tryz.func3, Tryz.ntmps3
  go_wp2_with fail
  clear hp
  with_reducible refine (cond_any 3 S 3 (by omega) rfl _ _ s0 (by decide)).mono ?_
  rintro e w1 ⟨x, rfl, hT, hF, hsz, k1, s1⟩
  have hg := grown_trans g0 k1
  have HB1 := Lib.hid (show Below w.heap.size w w1 from ⟨hg.os, hg.tape, hg.output, hg.size, fun i hi => hg.block i hi (by simp; omega)⟩)
  have HTx := Lib.hid (hT.alloc (.cells x.cells.toArray 30))
  have HSZ := Lib.hid hsz
  have HOx := Lib.hid (OB.new w1 x.cells 30)
  have HFS := Lib.hid (hF S.g (strm_lt s0))
  have HFQ := Lib.hid (hT.newFar (Nat.le_refl _))
  have HB2 := Lib.hid (HB1.out.alloc HB1.out.size (.cells x.cells.toArray 30))
  have s2 := strm_alloc s1 (.cells x.cells.toArray 30)
  have hq := HB1.out.size
  have hql := strm_lt s1
  clear hT hF hsz k1 s1 hg g0 HB1 s0
  simp only [Cn.cells, List.toArray] at s2 HTx HOx HB2 ⊢
  go_upto_region 3 with (fail)
  generalize w1.alloc (.cells _ 30) = w2 at *
  generalize w1.heap.size = q at *
  go_wp2_with fail
  with_reducible refine (flip_any S _ _ _ s2 (by decide) (by omega)).mono ?_
  rintro e w3 ⟨b, rfl, k3, s3⟩
  have HT3 := Lib.hid (HTx.out.kept k3 (fun g e => by obtain rfl := Option.some.inj e; exact HFS.out))
  have HO3 := Lib.hid (OB.grown HOx.out k3 (fun e => by have := Option.some.inj e; omega))
  have HB3 := Lib.hid (HB2.out.trans (below_row k3 hBS HB2.out.size))
  clear k3 s2 HTx HOx HB2
  go_upto_if 12 with (fail)
  go_cut [] (fun wx => ∃ (d : Nat) (c : Cn), d ≤ 27 ∧ szN d c ≤ 3000 ∧ TAt d wx c ∧ OB wx q c.cells 30 ∧ Below w.heap.size w wx)
  case first =>
    cases b with
    | true =>
      go_wp2_with fail
      go_meet
      exact ⟨7, x, by omega, Nat.le_trans HSZ.out.1 (by decide), HT3.out, HO3.out, HB3.out⟩
    | false =>
      have C : Hid (Calls Tryz.prog 6 #[S.p, .agg #[.int .i64 x.nd.kind, .string x.nd.name, .string x.nd.field, .string x.nd.sign, .slice x.nd.va x.nd.vals.length x.nd.vc, .slice x.nd.wa x.nd.whs.length x.nd.wc, .int .i64 x.nd.within, .int .i64 x.nd.number, .slice x.nd.aa x.args.length x.nd.ac]] w3 (GenSp S (0 + kcC 3 + 1 + 3 * 7 + 20) w3 7 x (7 + 20) ((7 + 1) * szN 7 x + 20))) := Lib.hid (spoil_any S 7 x (0 + kcC 3 + 1) w3 HT3.out HFS.out HSZ.out.2 s3 (by decide))
      have y0 := HO3.out.cell 0 _ rfl
      have y1 := HO3.out.cell 1 _ rfl
      have y2 := HO3.out.cell 2 _ rfl
      have y3 := HO3.out.cell 3 _ rfl
      have y4 := HO3.out.cell 4 _ rfl
      have y5 := HO3.out.cell 5 _ rfl
      have y6 := HO3.out.cell 6 _ rfl
      have y7 := HO3.out.cell 7 _ rfl
      have y8 := HO3.out.cell 8 _ rfl
      have yl := HO3.out.lt
      go_wp2_with fail
      with_reducible refine C.out.mono ?_
      rintro e w4 ⟨x', rfl, hT, hFo, hszn, k4, s4⟩
      have HFQ' := Lib.hid (hFo q yl HFQ.out)
      have HT4 := Lib.hid hT
      have HO4 := Lib.hid (OB.grown HO3.out k4 (fun e => by have := Option.some.inj e; omega))
      have HB4 := Lib.hid (HB3.out.trans (below_row k4 hBS HB3.out.size))
      have HS4 : Hid (szN 27 x' ≤ 3000) := Lib.hid (Nat.le_trans hszn (by have : szN 7 x ≤ 311 := Nat.le_trans HSZ.out.1 (by decide); omega))
      clear hT hFo hszn k4 s4 s3 C y0 y1 y2 y3 y4 y5 y6 y7 y8 yl HT3 HO3 HB3
      simp only [Cn.cells]
      go_wp2_with (refine wpList_store_oc _ rfl _ _ _ rfl q _ [.int .i64 x'.nd.kind, .string x'.nd.name, .string x'.nd.field, .string x'.nd.sign, .slice x'.nd.va x'.nd.vals.length x'.nd.vc, .slice x'.nd.wa x'.nd.whs.length x'.nd.wc, .int .i64 x'.nd.within, .int .i64 x'.nd.number, .slice x'.nd.aa x'.args.length x'.nd.ac] _ rfl rfl HO4.out sizeCond rfl rfl ?_)
      intro wz oz kz
      have HTz := Lib.hid (HT4.out.kept kz (fun g e => by obtain rfl := Option.some.inj e; exact HFQ'.out))
      have HBz := Lib.hid (HB4.out.trans (below_row kz hq HB4.out.size))
      have HOz := Lib.hid oz
      clear oz kz
      go_wp2_with fail
      go_meet
      exact ⟨27, x', Nat.le_refl _, HS4.out, HTz.out, HOz.out, HBz.out⟩
  case rest =>
  obtain ⟨d, c, hd, hcs, hT, hO, hB⟩ := hcut
  clear HT3 HO3 HB3 s3
  have HT5 := Lib.hid hT
  have HO5 := Lib.hid hO
  have HB5 := Lib.hid hB
  clear hT hO hB
  go_upto_region 5 with (fail)
  refine wp_region_any (by kernel_rfl) ?_
  change wpAny _ _ _ _ _ _ _ (World.drew _)
  have HTd : Hid (TAt d wc.drew c) := Lib.hid (HT5.out.kept (⟨rfl, rfl, rfl, Nat.le_refl _, fun _ _ _ => rfl⟩ : wc.grownBy wc.drew none) (fun g e => by cases e))
  have HOd : Hid (OB wc.drew q c.cells 30) := Lib.hid HO5.out
  have HBd : Hid (Below w.heap.size w wc.drew) := Lib.hid ⟨HB5.out.os, HB5.out.tape, HB5.out.output, HB5.out.size, HB5.out.block⟩
  clear HT5 HO5 HB5
  generalize wc.drew = wd at *
  refine wpAny_ready (rs := [0]) (by kernel_rfl) (by simp) ?_
  refine fun j hj => ?_
  obtain rfl : j = 0 := List.mem_singleton.1 hj
  refine wpOp_calm (o := ⟨some 16, ?s0p1, ?s0p2, ?s0p3, ?s0p4, ?s0p5⟩) ?s0pi ?s0pg ?_
  case s0pi => exact rfl
  case s0pg => exact rfl
  intro K' Q' hK'
  have HK := Lib.hid hK'
  clear hK'
  have C := Lib.hid (segments_any wd (HT.out.below HBd.out))
  go_simp
  refine C.out.mono ?_
  rintro e w6 ⟨rfl, b6⟩
  have HT6 := Lib.hid (HTd.out.kept (grown_of_below b6 none) (fun g e => by cases e))
  have HO6 := Lib.hid (OB.below HOd.out b6)
  have HB6 := Lib.hid (HBd.out.trans (b6.mono HBd.out.size))
  refine HK.out _ _ ?_
  clear HK C b6 HTd HOd HBd
  refine wpAny_take (i := 1) (oi := ⟨some 17, _, _, _, _, _⟩) (v := (.bool true)) rfl (by kernel_rfl) (by kernel_rfl) (by kernel_rfl) (fun _ _ _ h => h) (Or.inl ⟨by rfl, fun w => by go_simp⟩) ?_
  refine wpAny_mask (n := 4) (m := 7) #[true, true, false, false, false, false, false, false, false] [2, 3, 4] (fun i => if i = 3 then [2] else []) [18, 19, 20] (fun e => if e = 18 then u18 else if e = 19 then u19 else u20) (JCk w q d c) rfl (by decide) (by kernel_rfl) (by kernel_rfl) ?stq ?hsq ?heq
  case stq => exact ⟨HT6.out, HO6.out, HB6.out, fun e => (by cases e), fun e => (by cases e), fun e => (by cases e)⟩
  case hsq =>
    intro i hi b u wx hbi hD hJ
    simp only [List.mem_cons, List.mem_nil_iff, or_false] at hi
    have HJ := Lib.hid hJ
    rcases hi with rfl | rfl | rfl
    · refine wpOp_ward (o := ⟨some 18, ?ap1, ?ap2, ?ap3, ?ap4, ?ap5⟩) ?api ?apg ?_
      case api => exact rfl
      case apg => kernel_rfl
      intro K' Q' hK'
      have HK := Lib.hid hK'
      clear hK'
      have y0 := hJ.bx.cell 0 _ rfl
      have y1 := hJ.bx.cell 1 _ rfl
      have y2 := hJ.bx.cell 2 _ rfl
      have y3 := hJ.bx.cell 3 _ rfl
      have y4 := hJ.bx.cell 4 _ rfl
      have y5 := hJ.bx.cell 5 _ rfl
      have y6 := hJ.bx.cell 6 _ rfl
      have y7 := hJ.bx.cell 7 _ rfl
      have y8 := hJ.bx.cell 8 _ rfl
      have yl := hJ.bx.lt
      simp only [setAll, List.foldl]
      go_simp
      exact HK.out _ _ ⟨upd u 18 c.agg, by unfold Cn.agg; kernel_rfl, ⟨HJ.out.tr, HJ.out.bx, HJ.out.bl, fun _ => rfl, fun e => HJ.out.p3 e, fun e => HJ.out.p4 e⟩⟩
    · refine wpOp_ward (o := ⟨some 19, ?bp1, ?bp2, ?bp3, ?bp4, ?bp5⟩) ?bpi ?bpg ?_
      case bpi => exact rfl
      case bpg => kernel_rfl
      intro K' Q' hK'
      have HK := Lib.hid hK'
      clear hK'
      have h2 := HJ.out.p2 (hD 2 (by simp))
      have C := Lib.hid (checkCond_any d c wx HJ.out.tr (HT.out.below HJ.out.bl))
      simp only [setAll, List.foldl, h2]
      go_simp
      refine C.out.mono ?_
      rintro e w' ⟨rfl, b'⟩
      exact HK.out _ _ ⟨upd (upd u 18 c.agg) 19 (.int .i64 (cnE d c)), by unfold Cn.agg; kernel_rfl, by
        rw [upd_same h2]
        exact ⟨HJ.out.tr.kept (grown_of_below b' none) (fun g e => by cases e), OB.below HJ.out.bx b', HJ.out.bl.trans (b'.mono HJ.out.bl.size), fun e => HJ.out.p2 e, fun _ => rfl, fun e => HJ.out.p4 e⟩⟩
    · refine wpOp_ward (o := ⟨some 20, ?cp1, ?cp2, ?cp3, ?cp4, ?cp5⟩) ?cpi ?cpg ?_
      case cpi => exact rfl
      case cpg => kernel_rfl
      intro K' Q' hK'
      have HK := Lib.hid hK'
      clear hK'
      have y0 := hJ.bx.cell 0 _ rfl
      have y1 := hJ.bx.cell 1 _ rfl
      have y2 := hJ.bx.cell 2 _ rfl
      have y3 := hJ.bx.cell 3 _ rfl
      have y4 := hJ.bx.cell 4 _ rfl
      have y5 := hJ.bx.cell 5 _ rfl
      have y6 := hJ.bx.cell 6 _ rfl
      have y7 := hJ.bx.cell 7 _ rfl
      have y8 := hJ.bx.cell 8 _ rfl
      have yl := hJ.bx.lt
      simp only [setAll, List.foldl]
      go_simp
      exact HK.out _ _ ⟨upd u 20 c.agg, by unfold Cn.agg; kernel_rfl, ⟨HJ.out.tr, HJ.out.bx, HJ.out.bl, fun e => HJ.out.p2 e, fun e => HJ.out.p3 e, fun _ => rfl⟩⟩
  case heq =>
    intro b u wx hb hJ
    have h2 := hJ.p2 (hb 2 (by simp))
    have h3 := hJ.p3 (hb 3 (by simp))
    have h4 := hJ.p4 (hb 4 (by simp))
    have C := Lib.hid (CondFault_any d c wx hJ.tr (HT.out.below hJ.bl) (by omega) (by omega))
    have HBx := Lib.hid hJ.bl
    simp only [setAll, List.foldl, h2, h3, h4]
    clear h2 h3 h4 hb hJ
    refine wpAny_ready (rs := [5]) (by kernel_rfl) (by simp) ?_
    refine fun j hj => ?_
    obtain rfl : j = 5 := List.mem_singleton.1 hj
    refine wpOp_ward (o := ⟨some 21, ?dp1, ?dp2, ?dp3, ?dp4, ?dp5⟩) ?dpi ?dpg ?_
    case dpi => exact rfl
    case dpg => kernel_rfl
    intro K' Q' hK'
    have HK := Lib.hid hK'
    clear hK'
    go_simp
    refine C.out.mono ?_
    rintro e w7 ⟨rfl, b7⟩
    have HB7 := Lib.hid (HBx.out.trans (b7.mono HBx.out.size))
    refine HK.out _ _ ?_
    clear HK C b7 HBx
    generalize cnE d c = E at *
    refine wpAny_ready (rs := [6]) (by kernel_rfl) (by simp) ?_
    refine fun j hj => ?_
    obtain rfl : j = 6 := List.mem_singleton.1 hj
    refine wpOp_ward (o := ⟨some 22, ?ep1, ?ep2, ?ep3, ?ep4, ?ep5⟩) ?epi ?epg ?_
    case epi => exact rfl
    case epg => kernel_rfl
    intro K' Q' hK'
    have HK := Lib.hid hK'
    clear hK'
    go_simp
    refine HK.out _ _ ?_
    clear HK
    refine wpAny_ready (rs := [7]) (by kernel_rfl) (by simp) ?_
    refine fun j hj => ?_
    obtain rfl : j = 7 := List.mem_singleton.1 hj
    refine wpOp_calm (o := ⟨some 23, ?fp1, ?fp2, ?fp3, ?fp4, ?fp5⟩) ?fpi ?fpg ?_
    case fpi => exact rfl
    case fpg => exact rfl
    intro K' Q' hK'
    have HK := Lib.hid hK'
    clear hK'
    go_simp
    refine HK.out _ _ ?_
    clear HK
    refine wpAny_ready (rs := [8]) (by kernel_rfl) (by simp) ?_
    refine fun j hj => ?_
    obtain rfl : j = 8 := List.mem_singleton.1 hj
    refine wpOp_calm (o := ⟨some 2, ?gp1, ?gp2, ?gp3, ?gp4, ?gp5⟩) ?gpi ?gpg ?_
    case gpi => exact rfl
    case gpg => exact rfl
    intro K' Q' hK'
    have HK := Lib.hid hK'
    clear hK'
    go_simp
    refine HK.out _ _ ?_
    clear HK
    refine wpAny_done (by kernel_rfl) ?_ _
    go_wp2_with fail
    go_ret
    exact ⟨rfl, HB7.out⟩
theorem condChecks_tabs {w : World} (h : laidMetH Tryz.prog [("math/bits.deBruijn32tab", Rows.laid_math_bits_deBruijn32tab), ("math/bits.deBruijn64tab", Rows.laid_math_bits_deBruijn64tab), ("internal/strconv.uint64pow10", Rows.laid_internal_strconv_uint64pow10), ("unicode/utf8.acceptRanges", Rows.laid_unicode_utf8_acceptRanges), ("strconv.ErrRange", Rows.laid_strconv_ErrRange), ("strconv.ErrSyntax", Rows.laid_strconv_ErrSyntax), ("unicode.White_Space", Rows.laid_unicode_White_Space), ("strings.asciiSpace", Rows.laid_strings_asciiSpace), ("unicode/utf8.first", Rows.laid_unicode_utf8_first)] w) : Tbs w :=
  tbs_of_laid h (by rw [show (Lib.tabData .u8 Lib.asciiSpaceTab : DataW Unit) = Rows.laid_strings_asciiSpace by kernel_rfl]; exact (.tail _ (.tail _ (.tail _ (.tail _ (.tail _ (.tail _ (.tail _ (.head _)))))))))
    (by rw [show (Lib.firstData : DataW Unit) = Rows.laid_unicode_utf8_first by kernel_rfl]; exact (.tail _ (.tail _ (.tail _ (.tail _ (.tail _ (.tail _ (.tail _ (.tail _ (.head _))))))))))
    (by rw [show (Lib.acceptData : DataW Unit) = Rows.laid_unicode_utf8_acceptRanges by kernel_rfl]; exact (.tail _ (.tail _ (.tail _ (.head _)))))
end Go.Proofs.YtdiioecpponnmaaGreatDoor
