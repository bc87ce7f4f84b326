/- The walk of the statement CellsFolded. -/
import Derived.Test.YtmhnnbffhciinaaDoorRow
import Derived.Test.YtmhnnbffhciinaaDoorRows
import Derived.Test.YtmhnnbffhciinaaDoorCellsMake
import Derived.Test.YtmhnnbffhciinaaDoorKeepMake
import Derived.Test.YtmhnnbffhciinaaDoorAdds
import Derived.Test.YtmhnnbffhciinaaDoorFoldOf
import Derived.Test.YtmhnnbffhciinaaDoorOrErr
import Derived.Test.YtmhnnbffhciinaaDoorMeasures
import Derived.Laws.Tables
import Derived.LaidMore
import Derived.Deep.DeepCutAuto
import Derived.Deep.CutBlock
set_option linter.unusedVariables false
namespace Go.Proofs.YtmhnnbffhciinaaDoor
open Go.RowKit

/-- cells that are read lie apart from the stream -/
theorem RAt.apart {w : World} {S : SC} {K : Nat} {a : Option Addr} {l : List Ce} (h : RAt w a 3 Ce.cells l) (s : Strm w S K) (hl : 0 < l.length) : ∀ p off, a = some ⟨p, off, none⟩ → p ≠ S.g := by
  rintro p off rfl rfl
  obtain ⟨p', off', e, -, h3⟩ := h 0 hl
  injection e with e
  injection e with e1 e2
  subst e1 e2
  obtain ⟨⟨k, -, hb⟩, -⟩ := s
  have h2 := h3 2 (.int .i64 l[0].cents) rfl
  simp only [World.cell?, hb] at h2
  rw [Array.getElem?_eq_none (by simp)] at h2
  cases h2
theorem StrsAt.apart {w : World} {S : SC} {K : Nat} {a : Option Addr} {l : List ByteArray} (h : StrsAt w a l) (s : Strm w S K) (hl : 0 < l.length) : ∀ p off, a = some ⟨p, off, none⟩ → p ≠ S.g := by
  rintro p off rfl rfl
  obtain ⟨p', off', e, -, h3⟩ := h 0 hl
  injection e with e
  injection e with e1 e2
  subst e1 e2
  obtain ⟨⟨k, -, hb⟩, -⟩ := s
  simp only [World.cell?, hb] at h3
  rcases off with _ | _ | off
  · simp at h3
  · simp at h3
  · rw [Array.getElem?_eq_none (by simp)] at h3
    cases h3
theorem cells_kp {w : World} {S : SC} {K : Nat} {a : Option Addr} {l : List Ce} (s : Strm w S K) (h : RAt w a 3 Ce.cells l) (ht : TagsAt Ce.tv Ce.keys w l) : Kp S (fun w => RAt w a 3 Ce.cells l ∧ TagsAt Ce.tv Ce.keys w l) w := by
  intro w' k
  refine ⟨?_, fun x hx => ?_⟩
  · by_cases hl : 0 < l.length
    · exact h.grown k (h.apart s hl)
    · obtain rfl := List.eq_nil_of_length_eq_zero (by omega : l.length = 0)
      exact RAt.nil _ _ _ _
  · by_cases hl : 0 < x.keys.length
    · exact (ht x hx).grown k ((ht x hx).apart s hl)
    · have e := List.eq_nil_of_length_eq_zero (by omega : x.keys.length = 0)
      rw [e]
      exact StrsAt.nil _ _
theorem name_it {w8 wx : World} {r : Option Nat} (k : w8.grownBy wx r) : ∃ w9 : World, True ∧ w9 = wx := ⟨wx, trivial, rfl⟩
/-- what is carried along -/
structure WF (w0 : World) (S : SC) (a ak : Option Addr) (l : List Ce) (keep : List Int) (w : World) : Prop where
  gr : w0.grownBy w (some S.g)
  rc : RAt w a 3 Ce.cells l
  tc : TagsAt Ce.tv Ce.keys w l
  ik : IntsAt w ak keep
theorem add_or (l parent : List Ce) (keep : List Int) : addE2 l parent keep = orE [fdE l keep, ceE parent] := by
  unfold addE2 orE orE orE
  by_cases h : fdE l keep = 0
  · rw [if_neg (by omega), if_pos h]
    by_cases h2 : ceE parent = 0
    · rw [if_pos h2, h2]
    · rw [if_neg h2]
  · rw [if_pos h, if_neg h]
theorem same_fold {l ox oy : List Ce} {keep : List Int} (hx : ox.map Ce.el = (if fdE l keep = 0 then foldL (l.map Ce.el) keep else [])) (hy : oy.map Ce.el = (if fdE l keep = 0 then foldL (l.map Ce.el) keep else [])) : sameB ox oy = true := by
  unfold sameB
  rw [hx, hy]
  exact decide_eq_true rfl
theorem same_add {l oy parent : List Ce} {keep : List Int} (h : addE2 l parent keep = 0) (hy : oy.map Ce.el = (if fdE l keep = 0 then foldL (l.map Ce.el) keep else [])) : addB l parent keep = sameB oy parent := by
  have h0 : fdE l keep = 0 := by
    unfold addE2 at h
    by_cases e : fdE l keep = 0
    · exact e
    · rw [if_pos e] at h; exact h
  exact add_3 h (by rw [hy, if_pos h0])
theorem fold_fine {l o : List Ce} {keep : List Int} (hl : l.length ≤ 8) (hk : keep.length ≤ 4) (hok : ∀ x ∈ l, x.ok) (ho : o.map Ce.el = (if fdE l keep = 0 then foldL (l.map Ce.el) keep else [])) : o.length ≤ 8 ∧ ∀ x ∈ o, x.ok := by
  by_cases h : fdE l keep = 0
  · rw [if_pos h] at ho
    refine ⟨?_, fold_ok (n := 4) (by omega) hok hk h ho⟩
    have h1 := foldL_len (l.map Ce.el) keep
    rw [← ho, List.length_map, List.length_map] at h1
    omega
  · rw [if_neg h] at ho
    have : o = [] := by simpa using ho
    subst this
    exact ⟨by simp, by simp⟩

set_option maxRecDepth 100000 in
set_option maxHeartbeats 16000000 in
theorem cellsFolded_walk (a0 : Option Addr) (len0 cap0 : Nat) (z0 : List Int) (w : World) (w0 : IsRow .i64 w a0 len0 cap0 z0) (ht : True) :
    Calls Tryd.prog 3 #[.slice a0 len0 cap0] w fun e w' => e = .returned (.bool true) ∧ Below w.heap.size w w' := by
  obtain ⟨S, hBS, hp, s0, g0⟩ := strm_begin w0
  clear w0 ht
  go_enter Tryd.func3, Tryd.ntmps3
  go_wp2_with fail
  clear hp
  have C : Calls Tryd.prog 4 #[S.p] _ _ := cells_make S _ _ s0 (by omega)
  with_reducible refine C.mono ?_
  clear C
  rintro e w1 ⟨a, c, l, ⟨hl8, hlo⟩, rfl, -, -, KI, KT, k1, s1⟩
  have HA1 := Lib.hid (((Kp.grown (grown_trans g0 k1)).and KI).and KT)
  have HOK := Lib.hid hlo
  clear k1 g0 s0 KI KT hlo
  obtain ⟨n, hnn⟩ : ∃ n, l.length = n := ⟨_, rfl⟩
  rw [hnn] at hl8 ⊢
  have HN := Lib.hid hnn
  clear hnn
  go_wp2_with fail
  with_reducible refine (keep_make S _ _ s1 (by omega)).mono ?_
  rintro e w2 ⟨ak, ck, keep, ⟨hm4, hkb⟩, rfl, hr, -, -, har, k2, s2⟩
  have HA2 : Hid (Kp S (WF w S a ak l keep) w2) := Lib.hid (((HA1.out.up k2).and (Kp.ints (ints_rat hr) har)).mp fun w' h => ⟨h.1.1.1, h.1.1.2, h.1.2, h.2⟩)
  have HKB := Lib.hid (show ∀ z ∈ keep, -100 ≤ z ∧ z ≤ 100 from fun z hz => by have := hkb z hz; omega)
  clear k2 s1 HA1 hr har hkb
  obtain ⟨m, hmm⟩ : ∃ m, keep.length = m := ⟨_, rfl⟩
  rw [hmm] at hm4 ⊢
  have HM := Lib.hid hmm
  clear hmm
  have CC := Lib.hid (fun w' (h : WF w S a ak l keep w') => CheckCells_any a l n c w' HN.out (by omega) h.rc h.tc HOK.out)
  have CR := Lib.hid (fun w' (h : WF w S a ak l keep w') => CellsFault_any a l n c w' HN.out (by omega) h.rc h.tc HOK.out)
  have CF := Lib.hid (fun w' (h : WF w S a ak l keep w') => Fold_any a l n c ak keep m ck w' HN.out (by omega) h.rc h.tc HOK.out HM.out (by omega) h.ik HKB.out)
  have CG := Lib.hid (fun w' (h : WF w S a ak l keep w') => FoldOf_any a l n c ak keep m ck w' HN.out (by omega) h.rc h.tc HOK.out HM.out (by omega) h.ik HKB.out)
  generalize ceE l = E at *
  go_wp2_with fail
  with_reducible refine (CC.out _ HA2.out.now).mono ?_
  rintro e w3 ⟨rfl, b3⟩
  have HA3 := Lib.hid (HA2.out.below b3)
  have s3 := strm_below s2 b3
  clear HA2 b3 s2
  go_wp2_with fail
  with_reducible refine (CR.out _ HA3.out.now).mono ?_
  rintro e w4 ⟨rfl, b4⟩
  have HA4 := Lib.hid (HA3.out.below b4)
  have s4 := strm_below s3 b4
  clear HA3 b4 s3 CC CR
  go_wp2_with fail
  with_reducible refine (CF.out _ HA4.out.now).mono ?_
  rintro e w5 ⟨xa, xc, ox, rfl, hxr, hxt, b5, hxe⟩
  have HA5 := Lib.hid (HA4.out.below b5)
  have s5 := strm_below s4 b5
  have HX5 := Lib.hid (cells_kp s5 hxr hxt)
  have HXE := Lib.hid hxe
  clear HA4 b5 s4 CF hxr hxt hxe
  go_wp2_with fail
  with_reducible refine (CG.out _ HA5.out.now).mono ?_
  rintro e w6 ⟨ya, yc, oy, rfl, hyr, hyt, b6, hye⟩
  have HA6 := Lib.hid (HA5.out.below b6)
  have s6 := strm_below s5 b6
  have HX6 := Lib.hid (HX5.out.below b6)
  have HY6 := Lib.hid (cells_kp s6 hyr hyt)
  have HYE := Lib.hid hye
  clear HA5 HX5 b6 s5 CG hyr hyt hye
  obtain ⟨hx8, hxo⟩ := fold_fine (l := l) (keep := keep) (by rw [HN.out]; exact hl8) (by rw [HM.out]; exact hm4) HOK.out HXE.out
  obtain ⟨hy8, hyo⟩ := fold_fine (l := l) (keep := keep) (by rw [HN.out]; exact hl8) (by rw [HM.out]; exact hm4) HOK.out HYE.out
  have HXO := Lib.hid hxo
  have HYO := Lib.hid hyo
  clear hxo hyo
  obtain ⟨nx, hnx⟩ : ∃ n, ox.length = n := ⟨_, rfl⟩
  obtain ⟨ny, hny⟩ : ∃ n, oy.length = n := ⟨_, rfl⟩
  rw [hnx] at hx8 ⊢
  rw [hny] at hy8 ⊢
  have HNX := Lib.hid hnx
  have HNY := Lib.hid hny
  clear hnx hny
  have CS := Lib.hid (SameCells_any xa ya ox oy nx ny xc yc w6 HNX.out HNY.out (by omega) (by omega) HX6.out.now.1 HX6.out.now.2 HY6.out.now.1 HY6.out.now.2 (fun x hx => by have := (HXO.out x hx).1; omega) (fun x hx => by have := (HYO.out x hx).1; omega))
  rw [same_fold HXE.out HYE.out] at CS
  obtain ⟨F, hF⟩ : ∃ F, fdE l keep = F := ⟨_, rfl⟩
  rw [hF]
  have HF := Lib.hid hF
  clear hF
  go_wp2_with fail
  with_reducible refine CS.out.mono ?_
  rintro e w7 ⟨rfl, b7⟩
  have HA7 := Lib.hid (HA6.out.below b7)
  have s7 := strm_below s6 b7
  have HY7 := Lib.hid (HY6.out.below b7)
  clear HA6 HX6 HY6 b7 s6 CS
  go_wp2_with fail
  with_reducible refine (flip_any S _ _ _ s7 (by omega) (by omega)).mono ?_
  rintro e w8 ⟨fb, rfl, k8, s8⟩
  have HA8 := Lib.hid (HA7.out.up k8)
  have HY8 := Lib.hid (HY7.out.up k8)
  clear HA7 HY7 k8 s7
  go_upto_if 49 with (fail)
  go_cut [10] (fun u wx => ∃ pa pc parent, u = .slice pa (List.length parent) pc ∧ Hid (∀ x ∈ parent, x.ok) ∧ parent.length ≤ 8 ∧ Hid (RAt wx pa 3 Ce.cells parent ∧ TagsAt Ce.tv Ce.keys wx parent) ∧ w8.grownBy wx (some S.g))
  case first =>
    cases fb with
    | false =>
      go_wp2_with fail
      go_meet
      exact ⟨ya, yc, oy, by rw [HNY.out], HYO, by rw [HNY.out]; exact hy8, Lib.hid HY8.out.now, grown_same _ _⟩
    | true =>
      go_wp2_with fail
      with_reducible refine (cells_make S _ _ s8 (by omega)).mono ?_
      rintro e w9 ⟨pa, pc, parent, ⟨hp8, hpo⟩, rfl, -, -, KI, KT, k9, s9⟩
      go_wp2_with fail
      go_meet
      exact ⟨pa, pc, parent, rfl, Lib.hid hpo, hp8, Lib.hid ⟨KI.now, KT.now⟩, k9⟩
  case rest =>
  obtain ⟨pa, pc, parent, rfl, HPO, hp8, HP9, k9⟩ := hcut
  obtain ⟨w9, -, rfl⟩ := name_it k9
  have HA9 := Lib.hid (HA8.out.up k9).now
  have HY9 := Lib.hid (HY8.out.up k9).now
  clear HA8 HY8 k9 s8
  obtain ⟨np, hnp⟩ : ∃ n, parent.length = n := ⟨_, rfl⟩
  rw [hnp] at hp8 ⊢
  have HNP := Lib.hid hnp
  clear hnp
  have CA := Lib.hid (Adds_any a l n c pa parent np pc ak keep m ck w9 HN.out (by omega) HA9.out.rc HA9.out.tc HOK.out HNP.out (by omega) HP9.out.1 HP9.out.2 HPO.out HM.out (by omega) HA9.out.ik HKB.out)
  have HOE := Lib.hid (add_or l parent keep)
  rw [HF.out] at HOE
  have CP := Lib.hid (fun w' (hb : Below w9.heap.size w9 w') => CellsFault_any pa parent np pc w' HNP.out (by omega) (HP9.out.1.below hb) (HP9.out.2.below hb) HPO.out)
  have CS := Lib.hid (fun w' (hb : Below w9.heap.size w9 w') => SameCells_any ya pa oy parent ny np yc pc w' HNY.out HNP.out (by omega) (by omega) (HY9.out.1.below hb) (HY9.out.2.below hb) (HP9.out.1.below hb) (HP9.out.2.below hb) (fun x hx => by have := (HYO.out x hx).1; omega) (fun x hx => by have := (HPO.out x hx).1; omega))
  have HSA := Lib.hid (fun h => same_add (l := l) (parent := parent) (keep := keep) h HYE.out)
  have HBG := Lib.hid (below_of_grown HA9.out.gr hBS)
  generalize ceE parent = P at *
  generalize sameB oy parent = SB at *
  clear HA9 HY9 HP9
  go_wp2_with fail
  with_reducible refine CA.out.mono ?_
  rintro e w10 ⟨rfl, b10⟩
  clear CA
  generalize addE2 l parent keep = AE at *
  generalize addB l parent keep = AB at *
  have HB10 := Lib.hid b10
  clear b10
  go_wp2_with fail
  with_reducible refine (CP.out _ HB10.out).mono ?_
  rintro e w11 ⟨rfl, b11⟩
  have HB11 := Lib.hid (HB10.out.trans (b11.mono HB10.out.size))
  clear b11 CP HB10
  go_wp2_with fail
  with_reducible refine (orErr_any w11.heap.size [F, P] 2 2 29 (w11.alloc (.cells #[.int .i64 F, .int .i64 P] 29)) rfl (by omega) (heap_alloc_new _ _)).mono ?_
  rintro e w12 ⟨rfl, rfl⟩
  have HB12 := Lib.hid (HB11.out.alloc HB11.out.size (.cells #[.int .i64 F, .int .i64 P] 29))
  clear HB11
  generalize w11.alloc (.cells #[.int .i64 F, .int .i64 P] 29) = w12 at *
  rw [← HOE.out]
  clear HOE
  by_cases hA0 : AE = 0
  · subst hA0
    have HSB := Lib.hid (HSA.out rfl)
    clear HSA
    go_wp2_with fail
    with_reducible refine (measures_any _).mono ?_
    rintro e w13 ⟨rfl, b13⟩
    have HB13 := Lib.hid (HB12.out.trans (b13.mono HB12.out.size))
    clear b13 HB12
    go_wp2_with fail
    with_reducible refine (CS.out _ HB13.out).mono ?_
    rintro e w14 ⟨rfl, b14⟩
    have HB14 := Lib.hid (HB13.out.trans (b14.mono HB13.out.size))
    have HBE := Lib.hid (HBG.out.trans (HB14.out.mono HBG.out.size))
    obtain rfl : AB = SB := HSB.out
    clear b14 HB13 HB14
    go_wp2_with fail
    go_ret
    exact ⟨ret_bool (by simp), HBE.out⟩
  · have hne : (AE != 0) = true := by simpa using hA0
    clear hA0 HSA
    go_wp2_with fail
    with_reducible refine (measures_any _).mono ?_
    rintro e w13 ⟨rfl, b13⟩
    have HB13 := Lib.hid (HB12.out.trans (b13.mono HB12.out.size))
    have HBE := Lib.hid (HBG.out.trans (HB13.out.mono HBG.out.size))
    clear b13 HB12 HB13
    go_wp2_with fail
    go_ret
    exact ⟨ret_bool (by simp), HBE.out⟩
theorem cellsFolded_tabs {P : Prop} (_ : P) : True := trivial
end Go.Proofs.YtmhnnbffhciinaaDoor
