/- (*Stream).AnyCond by itself (printed by gen_tyany.py out of XCNmF). -/
import Derived.Test.YtfdpfkdfglombaaGreatDoorSgM
import Derived.Test.YtfdpfkdfglombaaGreatDoorCkSp
import Derived.Deep.Cut
import Derived.Deep.CutBlock
import Derived.Deep.DeepCutAuto
set_option linter.unusedVariables false
namespace Go.Proofs.YtfdpfkdfglombaaGreatDoor
open Go.RowKit

/-- what the maker of any condition leaves -/
def GenAT (S : SC) (K : Nat) (w : World) (e : Ending) (w' : World) : Prop := ∃ (d : Nat) (c : Cn), d ≤ 27 ∧ szN d c ≤ 3000 ∧ e = .returned c.agg ∧ TAt d w' c ∧ FarT d c S.g ∧ w.grownBy w' (some S.g) ∧ Strm w' S K
set_option maxRecDepth 100000 in
set_option maxHeartbeats 4000000 in
theorem anyCondT_any (S : SC) (K : Nat) (w : World) (hs : Strm w S K) (hK : K + kcC 3 ≤ 9000) : Calls Tryz.prog 6 #[S.p] w (GenAT S (K + kcC 3 + 1 + 41) w) := by
  have s0 := strm_alloc hs (.cells #[.int .i64 0, .string ⟨#[]⟩, .string ⟨#[]⟩, .string ⟨#[]⟩, .slice none 0 0, .slice none 0 0, .int .i64 0, .int .i64 0, .slice none 0 0] 30)
  have hS := strm_lt hs
  have HZ : Hid (OB (w.alloc (.cells #[.int .i64 0, .string ⟨#[]⟩, .string ⟨#[]⟩, .string ⟨#[]⟩, .slice none 0 0, .slice none 0 0, .int .i64 0, .int .i64 0, .slice none 0 0] 30)) w.heap.size condZ 30) := Lib.hid (OB.new w condZ 30)
  have HG0 := Lib.hid (World.grownBy_alloc w (.cells #[.int .i64 0, .string ⟨#[]⟩, .string ⟨#[]⟩, .string ⟨#[]⟩, .slice none 0 0, .slice none 0 0, .int .i64 0, .int .i64 0, .slice none 0 0] 30) (some S.g))
  clear hs
  go_enter Tryz.func6, Tryz.ntmps6
  go_wp2_with fail
  with_reducible refine (cond_any 3 S 3 (by omega) rfl K _ s0 hK).mono ?_
  rintro e w1 ⟨x, rfl, hT, hF, hsz, k1, s1⟩
  have HSZ := Lib.hid hsz
  have HFS := Lib.hid (hF S.g (by have := strm_lt s0; exact this))
  have HFZ := Lib.hid (hF w.heap.size (by simp))
  obtain ⟨q2, hq2⟩ : ∃ z, w.heap.size = z := ⟨_, rfl⟩
  rw [hq2] at HZ HFZ hS ⊢
  have HZ1 := Lib.hid (HZ.out.grown k1 (fun e => by have := Option.some.inj e; omega))
  have HG1 := Lib.hid (grown_trans HG0.out k1)
  have HTx := Lib.hid hT
  have hql := HZ1.out.lt
  have hsl := strm_lt s1
  have HWQ : Hid (w.heap.size ≤ q2) := Lib.hid (by omega)
  clear hq2 hT hF hsz k1 HZ HG0 s0
  have HOx := Lib.hid (OB.new w1 x.cells 30)
  have HT2 := Lib.hid (HTx.out.alloc (.cells x.cells.toArray 30))
  have HFX := Lib.hid (HTx.out.newFar (Nat.le_refl _))
  have HZ2 := Lib.hid (HZ1.out.alloc (.cells x.cells.toArray 30))
  have HG2 := Lib.hid (grown_trans HG1.out (World.grownBy_alloc w1 (.cells x.cells.toArray 30) (some S.g)))
  have s2 := strm_alloc s1 (.cells x.cells.toArray 30)
  clear s1 HTx HZ1 HG1
  rw [show x.cells.toArray = #[.int .i64 x.nd.kind, .string x.nd.name, .string x.nd.field, .string x.nd.sign, .slice x.nd.va x.nd.vals.length x.nd.vc, .slice x.nd.wa x.nd.whs.length x.nd.wc, .int .i64 x.nd.within, .int .i64 x.nd.number, .slice x.nd.aa x.args.length x.nd.ac] from rfl]
  go_upto_region 2 with (fail)
  rw [show (Obj.cells #[.int .i64 x.nd.kind, .string x.nd.name, .string x.nd.field, .string x.nd.sign, .slice x.nd.va x.nd.vals.length x.nd.vc, .slice x.nd.wa x.nd.whs.length x.nd.wc, .int .i64 x.nd.within, .int .i64 x.nd.number, .slice x.nd.aa x.args.length x.nd.ac] 30) = .cells x.cells.toArray 30 from rfl]
  generalize w1.alloc (.cells x.cells.toArray 30) = w2 at *
  obtain ⟨q3, hq3⟩ : ∃ z, w1.heap.size = z := ⟨_, rfl⟩
  rw [hq3] at HOx HFX hql hsl ⊢
  clear hq3
  go_wp2_with fail
  with_reducible refine (flip_any S _ _ _ s2 (by omega) (by omega)).mono ?_
  rintro e w3 ⟨b, rfl, k3, s3⟩
  have HT3 := Lib.hid (HT2.out.kept k3 (fun g e => by obtain rfl := Option.some.inj e; exact HFS.out))
  have HO3 := Lib.hid (OB.grown HOx.out k3 (fun e => by have := Option.some.inj e; omega))
  have HZ3 := Lib.hid (OB.grown HZ2.out k3 (fun e => by have := Option.some.inj e; omega))
  have HG3 := Lib.hid (grown_trans HG2.out k3)
  clear k3 s2 HT2 HOx HZ2 HG2
  go_upto_if 7 with (fail)
  go_cut [] (fun wx => ∃ (d : Nat) (c : Cn), d ≤ 27 ∧ szN d c ≤ 3000 ∧ TAt d wx c ∧ FarT d c S.g ∧ FarT d c q2 ∧ OB wx q3 c.cells 30 ∧ OB wx q2 condZ 30 ∧ w.grownBy wx (some S.g) ∧ Strm wx S (K + kcC 3 + 1 + 41))
  case first =>
    cases b with
    | false =>
      go_wp2_with fail
      go_meet
      exact ⟨7, x, by omega, Nat.le_trans HSZ.out.1 (by decide), HT3.out, HFS.out, HFZ.out, HO3.out, HZ3.out, HG3.out, strm_mono s3 (by omega)⟩
    | true =>
      have C : Hid (Calls Tryz.prog 27 #[S.p, .agg #[.int .i64 x.nd.kind, .string x.nd.name, .string x.nd.field, .string x.nd.sign, .slice x.nd.va x.nd.vals.length x.nd.vc, .slice x.nd.wa x.nd.whs.length x.nd.wc, .int .i64 x.nd.within, .int .i64 x.nd.number, .slice x.nd.aa x.args.length x.nd.ac]] w3 (GenSp S (K + kcC 3 + 1 + 3 * 7 + 20) w3 7 x (7 + 20) ((7 + 1) * szN 7 x + 20))) := Lib.hid (spoil_any S 7 x (K + kcC 3 + 1) w3 HT3.out HFS.out HSZ.out.2 s3 (by omega))
      have y0 := HO3.out.cell 0 (.int .i64 x.nd.kind) rfl
      have y1 := HO3.out.cell 1 (.string x.nd.name) rfl
      have y2 := HO3.out.cell 2 (.string x.nd.field) rfl
      have y3 := HO3.out.cell 3 (.string x.nd.sign) rfl
      have y4 := HO3.out.cell 4 (.slice x.nd.va x.nd.vals.length x.nd.vc) rfl
      have y5 := HO3.out.cell 5 (.slice x.nd.wa x.nd.whs.length x.nd.wc) rfl
      have y6 := HO3.out.cell 6 (.int .i64 x.nd.within) rfl
      have y7 := HO3.out.cell 7 (.int .i64 x.nd.number) rfl
      have y8 := HO3.out.cell 8 (.slice x.nd.aa x.args.length x.nd.ac) rfl
      have yl := HO3.out.lt
      go_wp2_with fail
      with_reducible refine C.out.mono ?_
      rintro e w4 ⟨x', rfl, hT, hFo, hszn, k4, s4⟩
      have HFQ' := Lib.hid (hFo q3 yl HFX.out)
      have HFZ' := Lib.hid (hFo q2 HZ3.out.lt HFZ.out)
      have HFS' := Lib.hid (hFo S.g (strm_lt s3) HFS.out)
      have HT4 := Lib.hid hT
      have HO4 := Lib.hid (OB.grown HO3.out k4 (fun e => by have := Option.some.inj e; omega))
      have HZ4 := Lib.hid (OB.grown HZ3.out k4 (fun e => by have := Option.some.inj e; omega))
      have HG4 := Lib.hid (grown_trans HG3.out k4)
      have HS4 : Hid (szN 27 x' ≤ 3000) := Lib.hid (Nat.le_trans hszn (by have : szN 7 x ≤ 311 := Nat.le_trans HSZ.out.1 (by decide); omega))
      clear hT hFo hszn k4 s3 C y0 y1 y2 y3 y4 y5 y6 y7 y8 yl HT3 HO3 HZ3 HG3
      simp only [Cn.cells]
      go_wp2_with (refine wpList_store_oc _ rfl _ _ _ rfl q3 _ _ _ rfl rfl HO4.out sizeCond rfl rfl ?_)
      intro wz oz kz
      have HTz := Lib.hid (HT4.out.kept kz (fun g e => by obtain rfl := Option.some.inj e; exact HFQ'.out))
      have hne : q3 ≠ q2 := fun e => by have := HZ4.out; have := HO4.out; omega
      have HZz := Lib.hid (OB.grown HZ4.out kz (fun e => hne (Option.some.inj e)))
      have HGz := Lib.hid (grown_own HG4.out kz (fun b hb => by have := Option.some.inj hb; have := HWQ.out; omega))
      have sz := strm_own s4 kz (fun b hb => by have := Option.some.inj hb; omega)
      have HOz := Lib.hid oz
      clear oz kz s4
      go_wp2_with fail
      go_meet
      exact ⟨27, x', Nat.le_refl _, HS4.out, HTz.out, HFS'.out, HFZ'.out, HOz.out, HZz.out, HGz.out, strm_mono sz (by omega)⟩
  case rest =>
  obtain ⟨d, c, hd, hcs, hT, hFs, hFq, hO, hZ, hG, hs⟩ := hcut
  clear HT3 HO3 HZ3 HG3 s3
  have HT5 := Lib.hid hT
  have HO5 := Lib.hid hO
  have HZ5 := Lib.hid hZ
  have HG5 := Lib.hid hG
  have HF5 := Lib.hid (And.intro hFs hFq)
  clear hT hO hZ hG hFs hFq
  have y0 := HO5.out.cell 0 (.int .i64 c.nd.kind) rfl
  have y1 := HO5.out.cell 1 (.string c.nd.name) rfl
  have y2 := HO5.out.cell 2 (.string c.nd.field) rfl
  have y3 := HO5.out.cell 3 (.string c.nd.sign) rfl
  have y4 := HO5.out.cell 4 (.slice c.nd.va c.nd.vals.length c.nd.vc) rfl
  have y5 := HO5.out.cell 5 (.slice c.nd.wa c.nd.whs.length c.nd.wc) rfl
  have y6 := HO5.out.cell 6 (.int .i64 c.nd.within) rfl
  have y7 := HO5.out.cell 7 (.int .i64 c.nd.number) rfl
  have y8 := HO5.out.cell 8 (.slice c.nd.aa c.args.length c.nd.ac) rfl
  have yl := HO5.out.lt
  go_wp2_with (refine wpList_store_oc _ rfl _ _ _ rfl q2 _ _ _ rfl rfl HZ5.out sizeCond rfl rfl ?_)
  intro wz oz kz
  have r0 := oz.cell 0 _ rfl
  have r1 := oz.cell 1 _ rfl
  have r2 := oz.cell 2 _ rfl
  have r3 := oz.cell 3 _ rfl
  have r4 := oz.cell 4 _ rfl
  have r5 := oz.cell 5 _ rfl
  have r6 := oz.cell 6 _ rfl
  have r7 := oz.cell 7 _ rfl
  have r8 := oz.cell 8 _ rfl
  have HKz := Lib.hid kz
  clear oz kz
  go_wp2_with fail
  refine bodyPost_ret (v := .agg #[.int .i64 c.nd.kind, .string c.nd.name, .string c.nd.field, .string c.nd.sign, .slice c.nd.va c.nd.vals.length c.nd.vc, .slice c.nd.wa c.nd.whs.length c.nd.wc, .int .i64 c.nd.within, .int .i64 c.nd.number, .slice c.nd.aa c.args.length c.nd.ac]) (by simp [results, Tryz.results6, go_sem, r0, r1, r2, r3, r4, r5, r6, r7, r8]) rfl ?_
  exact ⟨d, c, hd, hcs, rfl, HT5.out.kept HKz.out (fun g e => by obtain rfl := Option.some.inj e; exact HF5.out.2), HF5.out.1, grown_own HG5.out HKz.out (fun b hb => by have := Option.some.inj hb; have := HWQ.out; omega), strm_own hs HKz.out (fun b hb => by have := Option.some.inj hb; omega)⟩
end Go.Proofs.YtfdpfkdfglombaaGreatDoor
