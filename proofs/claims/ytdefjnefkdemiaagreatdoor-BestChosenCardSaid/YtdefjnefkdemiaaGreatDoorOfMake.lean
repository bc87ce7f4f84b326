/- The maker of one offer: Stream.Offer (printed by gen_ofmake.py). -/
import Derived.Test.YtdefjnefkdemiaaGreatDoorM1
set_option linter.unusedVariables false
namespace Go.Proofs.YtdefjnefkdemiaaGreatDoor
open Go.RowKit

set_option maxRecDepth 100000 in
set_option maxHeartbeats 16000000 in
theorem offer_any (S : SC) (K : Nat) (key : ByteArray) (w : World) (s0 : Strm w S K) (hK : K ≤ 10000) (hkey : key.size ≤ 100) :
    Calls Tryz.prog 22 #[S.p, .string key] w (GenOf S (K + 20) key w) := by
  have hg0 := strm_lt s0
  have R1 := Lib.hid (OB.new w ofZ.cells 37)
  have G1 := Lib.hid (World.grownBy_alloc w (.cells ofZ.cells.toArray 37) (some S.g))
  have s1 := strm_alloc s0 (.cells ofZ.cells.toArray 37)
  have hz1 : (w.alloc (.cells ofZ.cells.toArray 37)).heap.size = w.heap.size + 1 := by simp
  rw [show ofZ.cells.toArray = #[.string ⟨#[]⟩, .int .i64 0, .int .i64 0, .int .i64 0, .slice none 0 0, .int .i64 0, .int .i64 0, .string ⟨#[]⟩, .bool false, .int .i64 0, .int .i64 0, .int .i64 0] from rfl] at R1 G1 s1 hz1
  clear s0
  go_enter Tryz.func22, Tryz.ntmps22
  go_upto_region 1 with (fail)
  generalize w.alloc (.cells #[.string ⟨#[]⟩, .int .i64 0, .int .i64 0, .int .i64 0, .slice none 0 0, .int .i64 0, .int .i64 0, .string ⟨#[]⟩, .bool false, .int .i64 0, .int .i64 0, .int .i64 0] 37) = w1 at *
  obtain ⟨q0, hq0⟩ : ∃ q, w.heap.size = q := ⟨_, rfl⟩
  rw [hq0] at R1 hz1 hg0 ⊢
  have HQ0 := Lib.hid hq0
  clear hq0
  go_wp2_with fail
  with_reducible refine (range_any S _ _ _ _ s1 (by omega) (by omega) (by omega) (by omega)).mono ?_
  rintro e w2 ⟨kd, ⟨hk0, hk1⟩, rfl, k2, s2⟩
  have R2 := Lib.hid (R1.out.grown k2 (by simp; omega))
  have G2 := Lib.hid (grown_trans G1.out k2)
  have hz2 := k2.size
  clear R1 G1 k2 s1
  go_wp2_with fail
  with_reducible refine (pick_at S _ [0, 0, 1, 2] 4 _ _ _ _ s2 (by omega) rfl (by omega) (by omega) (by simp) (by simp)).mono ?_
  rintro e w3 ⟨od, hm, rfl, k2, s3⟩
  have hod : 0 ≤ od ∧ od ≤ 2 := by
    simp only [List.mem_cons, List.mem_nil_iff, or_false] at hm
    omega
  have R3 := Lib.hid (R2.out.grown k2 (by simp; omega))
  have G3 := Lib.hid (grown_trans G2.out k2)
  have hz3 := k2.size
  clear R2 G2 k2 s2 hm
  go_wp2_with fail
  with_reducible refine (pick_at S _ [0, 0, 0, 60] 4 _ _ _ _ s3 (by omega) rfl (by omega) (by omega) (by simp) (by simp)).mono ?_
  rintro e w4 ⟨fr, hm, rfl, k2, s4⟩
  have hfr : 0 ≤ fr ∧ fr ≤ 60 := by
    simp only [List.mem_cons, List.mem_nil_iff, or_false] at hm
    omega
  have R4 := Lib.hid (R3.out.grown k2 (by simp; omega))
  have G4 := Lib.hid (grown_trans G3.out k2)
  have hz4 := k2.size
  clear R3 G3 k2 s3 hm
  go_wp2_with fail
  with_reducible refine (pick_at S _ [50, 100, 4321440, 4321440] 4 _ _ _ _ s4 (by omega) rfl (by omega) (by omega) (by simp) (by simp)).mono ?_
  rintro e w5 ⟨t2, hm, rfl, k2, s5⟩
  have ht2 : 50 ≤ t2 ∧ t2 ≤ 4321440 := by
    simp only [List.mem_cons, List.mem_nil_iff, or_false] at hm
    omega
  have R5 := Lib.hid (R4.out.grown k2 (by simp; omega))
  have G5 := Lib.hid (grown_trans G4.out k2)
  have hz5 := k2.size
  clear R4 G4 k2 s4 hm
  obtain ⟨q, hq⟩ : ∃ q, w5.heap.size = q := ⟨_, rfl⟩
  have P6 : OfW w S q0 q ⟨key, kd, 0, 0, none, 0, [], 0, 0, ⟨#[]⟩, false, od, fr, t2⟩ (K + 1 + 1 + 1 + 1) (w5.alloc (.cells #[.string key, .int .i64 kd, .int .i64 0, .int .i64 0, .slice none 0 0, .int .i64 0, .int .i64 0, .string ⟨#[]⟩, .bool false, .int .i64 od, .int .i64 fr, .int .i64 t2] 37)) :=
    ⟨strm_alloc s5 _, grown_alloc G5.out _, by rw [← hq]; exact heap_alloc_new _ _, R5.out.alloc _, TgF.nil _ _ _, by omega, by rw [HQ0.out]; omega, by omega⟩
  clear R5 G5 s5
  go_upto_region 2 with (fail)
  generalize w5.alloc (.cells #[.string key, .int .i64 kd, .int .i64 0, .int .i64 0, .slice none 0 0, .int .i64 0, .int .i64 0, .string ⟨#[]⟩, .bool false, .int .i64 od, .int .i64 fr, .int .i64 t2] 37) = w6 at *
  rw [hq] at hz5
  clear hz2 hz3 hz4 hz5 hz1 hq
  have HP6 := Lib.hid P6
  clear P6
  have c1 := HP6.out.box.cell 11 _ rfl
  have c2 := HP6.out.box.cell 10 _ rfl
  have c3 := HP6.out.box.free 11
  obtain ⟨hod0, hod1⟩ := hod
  obtain ⟨hfr0, hfr1⟩ := hfr
  obtain ⟨ht0, ht1⟩ := ht2
  go_upto_region 3 with (fail)
  obtain ⟨t3, ht3⟩ : ∃ t, max t2 (fr + 1) = t := ⟨_, rfl⟩
  have ht3b : 50 ≤ t3 ∧ t3 ≤ 4321440 := by rw [← ht3]; omega
  rw [ht3]
  obtain ⟨x, hxk, hxok, HX⟩ : ∃ x : Of, x.key = key ∧ Hid x.ok ∧ Hid (OfW w S q0 q x (K + 4) (w6.setCell ⟨q, 11, none⟩ (.int .i64 t3))) :=
    ⟨⟨key, kd, 0, 0, none, 0, [], 0, 0, ⟨#[]⟩, false, od, fr, t3⟩, rfl, Lib.hid ⟨hkey, by simp only; omega, by simp only; omega, by simp only; omega, by simp only; omega, by simp only; omega, by simp only; omega, by simp, by simp, by simp only; omega, by simp only; omega, by simp only; omega, by simp only; omega, by show (0 : Nat) ≤ 100; omega, by simp only; omega, by simp only; omega, by simp only; omega, by simp only; omega, by simp only; omega, by simp only; omega⟩, Lib.hid (HP6.out.put 11 (.int .i64 t3) rfl (TgF.nil _ _ _))⟩
  generalize w6.setCell ⟨q, 11, none⟩ (.int .i64 t3) = w7 at *
  clear c1 c2 c3 hod0 hod1 hfr0 hfr1 ht0 ht1 ht3 ht3b hk0 hk1 HP6
  have c1 := HX.out.box.cell 1 _ rfl
  go_upto_block 0 with (fail)
  clear c1
  go_cut [] (fun wx => ∃ x : Of, x.key = key ∧ Hid x.ok ∧ OfW w S q0 q x (K + 6) wx)
  case first =>
    · skip
      have s7 := HX.out.strm
      obtain ⟨q1, hq1⟩ : ∃ b, (x.kind == 1) = b := ⟨_, rfl⟩
      obtain ⟨q3, hq3⟩ : ∃ b, (x.kind == 3) = b := ⟨_, rfl⟩
      cases q1 with
      | true =>
        have s7 := HX.out.strm
        go_wp2_with fail
        with_reducible refine (pick_at S _ [1, 10, 33, 50, 100] 5 _ _ _ _ s7 (by omega) rfl (by omega) (by omega) (by simp) (by simp)).mono ?_
        rintro e w8 ⟨v, hm, rfl, k8, s8⟩
        have hv : 1 ≤ v ∧ v ≤ 1000000000000 := by
          simp only [List.mem_cons, List.mem_nil_iff, or_false] at hm
          omega
        obtain ⟨hv0, hv1⟩ := hv
        have HX8 := Lib.hid (HX.out.draw k8 s8)
        clear HX k8 s7 hm
        have c1 := HX8.out.box.cell 2 _ rfl
        have f1 := HX8.out.box.free 2
        go_wp2_with fail
        go_meet
        exact ⟨{ x with a := v }, hxk, Lib.hid (hxok.out.ok_a v (by omega) (by omega)), (HX8.out.put (x' := { x with a := v }) 2 (.int .i64 v) rfl HX8.out.tg).mono (by omega)⟩
      | false =>
        cases q3 with
        | true =>
          go_wp2_with fail
          with_reducible refine (range_any S _ _ _ _ s7 (by omega) (by omega) (by omega) (by omega)).mono ?_
          rintro e w8 ⟨v, ⟨hv0, hv1⟩, rfl, k8, s8⟩
          have HX8 := Lib.hid (HX.out.draw k8 s8)
          clear HX k8 s7
          go_wp2_with fail
          with_reducible refine (range_any S _ _ _ _ s8 (by omega) (by omega) (by omega) (by omega)).mono ?_
          rintro e w9 ⟨u, ⟨hu0, hu1⟩, rfl, k9, s9⟩
          have HX9 := Lib.hid (HX8.out.draw k9 s9)
          clear HX8 k9 s8
          have c1 := HX9.out.box.cell 2 _ rfl
          have c2 := HX9.out.box.cell 3 _ rfl
          have f1 := HX9.out.box.free 2
          have f2 := HX9.out.box.free 3
          go_wp2_with fail
          go_meet
          exact ⟨{ x with a := v, b := u }, hxk, Lib.hid ((hxok.out.ok_a v (by omega) (by omega)).ok_b u (by omega) (by omega)), (((HX9.out.put (x' := { x with a := v }) 2 (.int .i64 v) rfl HX9.out.tg)).put (x' := { x with a := v, b := u }) 3 (.int .i64 u) rfl (HX9.out.put (x' := { x with a := v }) 2 (.int .i64 v) rfl HX9.out.tg).tg).mono (by omega)⟩
        | false =>
          have s7 := HX.out.strm
          go_wp2_with fail
          with_reducible refine (pick_at S _ [1, 100, 500, 5000, 1000000000000] 5 _ _ _ _ s7 (by omega) rfl (by omega) (by omega) (by simp) (by simp)).mono ?_
          rintro e w8 ⟨v, hm, rfl, k8, s8⟩
          have hv : 1 ≤ v ∧ v ≤ 1000000000000 := by
            simp only [List.mem_cons, List.mem_nil_iff, or_false] at hm
            omega
          obtain ⟨hv0, hv1⟩ := hv
          have HX8 := Lib.hid (HX.out.draw k8 s8)
          clear HX k8 s7 hm
          have c1 := HX8.out.box.cell 2 _ rfl
          have f1 := HX8.out.box.free 2
          go_wp2_with fail
          go_meet
          exact ⟨{ x with a := v }, hxk, Lib.hid (hxok.out.ok_a v (by omega) (by omega)), (HX8.out.put (x' := { x with a := v }) 2 (.int .i64 v) rfl HX8.out.tg).mono (by omega)⟩
  case rest =>
  clear HX hxok
  obtain ⟨x, hxk, hxok, hP⟩ := hcut
  have HX := Lib.hid hP
  clear hP
  have c1 := HX.out.box.cell 1 _ rfl
  have s8 := HX.out.strm
  go_upto_region 9 with (fail)
  go_cut [52] (fun u wx => ∃ b : Bool, u = .bool b ∧ OfW w S q0 q x (K + 7) wx)
  case first =>
    by_cases h4 : x.kind = 4
    · have e4 : (x.kind == 4) = true := by simp [h4]
      have e5 : (x.kind != 4) = false := by simp [h4]
      clear h4
      go_wp2_with fail
      go_meet
      exact ⟨false, rfl, HX.out.mono (by omega)⟩
    · have e4 : (x.kind == 4) = false := by simpa using h4
      have e5 : (x.kind != 4) = true := by simpa using h4
      clear h4
      go_wp2_with fail
      with_reducible refine (flip_any S _ _ _ s8 (by omega) (by omega)).mono ?_
      rintro e w9 ⟨b, rfl, k9, s9⟩
      have HX9 := Lib.hid (HX.out.draw k9 s9)
      clear c1 HX k9
      go_wp2_with fail
      go_meet
      exact ⟨b, rfl, HX9.out⟩
  case rest =>
  clear HX c1 s8
  obtain ⟨b, rfl, hP⟩ := hcut
  have HX := Lib.hid hP
  clear hP
  go_upto_if 52 with (fail)
  go_cut [] (fun wx => ∃ x : Of, x.key = key ∧ Hid x.ok ∧ OfW w S q0 q x (K + 8) wx)
  case first =>
    cases b with
    | false =>
      go_wp2_with fail
      go_meet
      exact ⟨x, hxk, hxok, HX.out.mono (by omega)⟩
    | true =>
      go_wp2_with fail
      generalize hW : (((wc.alloc (.cells #[.string ⟨#[104, 97, 116]⟩] 9)).alloc (.cells #[.string ⟨#[99, 97, 112]⟩, .string ⟨#[104, 97, 116]⟩] 9)).alloc (.cells #[.string ⟨#[115, 104, 111, 101]⟩] 9)).alloc (.cells #[.slice (some ⟨wc.heap.size, 0, none⟩) 1 1, .slice (some ⟨wc.heap.size + 1, 0, none⟩) 2 2, .slice (some ⟨wc.heap.size + 2, 0, none⟩) 1 1] 35) = w9
      have hgs := strm_lt HX.out.strm
      have HT : Hid (TgF w9 S (some ⟨wc.heap.size, 0, none⟩) [⟨#[104, 97, 116]⟩] ∧ TgF w9 S (some ⟨wc.heap.size + 1, 0, none⟩) [⟨#[99, 97, 112]⟩, ⟨#[104, 97, 116]⟩] ∧ TgF w9 S (some ⟨wc.heap.size + 2, 0, none⟩) [⟨#[115, 104, 111, 101]⟩] ∧ OB w9 (wc.heap.size + 3) [.slice (some ⟨wc.heap.size, 0, none⟩) 1 1, .slice (some ⟨wc.heap.size + 1, 0, none⟩) 2 2, .slice (some ⟨wc.heap.size + 2, 0, none⟩) 1 1] 35) := by
        rw [← hW]
        exact Lib.hid (tags3 hgs [⟨#[104, 97, 116]⟩] [⟨#[99, 97, 112]⟩, ⟨#[104, 97, 116]⟩] [⟨#[115, 104, 111, 101]⟩] [.slice (some ⟨wc.heap.size, 0, none⟩) 1 1, .slice (some ⟨wc.heap.size + 1, 0, none⟩) 2 2, .slice (some ⟨wc.heap.size + 2, 0, none⟩) 1 1] 35)
      have HX9 : Hid (OfW w S q0 q x (K + 7) w9) := by
        rw [← hW]
        exact Lib.hid ((((HX.out.alloc _).alloc _).alloc _).alloc _)
      clear hW HX
      have s9 := HX9.out.strm
      with_reducible refine (next_any S _ _ _ s9 (by omega) (by omega)).mono ?_
      rintro e w10 ⟨r, ⟨hr0, hr1, -⟩, rfl, k10, s10⟩
      have hr2 := hr1 (by omega)
      have HX10 := Lib.hid (HX9.out.draw k10 s10)
      have HTa := Lib.hid (HT.out.1.draw k10)
      have HTb := Lib.hid (HT.out.2.1.draw k10)
      have HTc := Lib.hid (HT.out.2.2.1.draw k10)
      have HTd := Lib.hid (HT.out.2.2.2.grown k10 (by simp; omega))
      clear HT HX9 k10 s9 hr1
      have c1 := HX10.out.box.cell 4 _ rfl
      have f1 := HX10.out.box.free 4
      have d0 := HTd.out.cell 0 _ rfl
      have d1 := HTd.out.cell 1 _ rfl
      have d2 := HTd.out.cell 2 _ rfl
      have dl := HTd.out.lt
      rcases (show r = 0 ∨ r = 1 ∨ r = 2 by omega) with rfl | rfl | rfl
      · go_wp2_with fail
        go_meet
        exact ⟨{ x with tv := some ⟨wc.heap.size, 0, none⟩, tc := 1, tags := [⟨#[104, 97, 116]⟩] }, hxk, Lib.hid (hxok.out.ok_tags _ _ _ (by decide) (by decide)), (HX10.out.put (x' := { x with tv := some ⟨wc.heap.size, 0, none⟩, tc := 1, tags := [⟨#[104, 97, 116]⟩] }) 4 _ rfl HTa.out).mono (by omega)⟩
      · go_wp2_with fail
        go_meet
        exact ⟨{ x with tv := some ⟨wc.heap.size + 1, 0, none⟩, tc := 2, tags := [⟨#[99, 97, 112]⟩, ⟨#[104, 97, 116]⟩] }, hxk, Lib.hid (hxok.out.ok_tags _ _ _ (by decide) (by decide)), (HX10.out.put (x' := { x with tv := some ⟨wc.heap.size + 1, 0, none⟩, tc := 2, tags := [⟨#[99, 97, 112]⟩, ⟨#[104, 97, 116]⟩] }) 4 _ rfl HTb.out).mono (by omega)⟩
      · go_wp2_with fail
        go_meet
        exact ⟨{ x with tv := some ⟨wc.heap.size + 2, 0, none⟩, tc := 1, tags := [⟨#[115, 104, 111, 101]⟩] }, hxk, Lib.hid (hxok.out.ok_tags _ _ _ (by decide) (by decide)), (HX10.out.put (x' := { x with tv := some ⟨wc.heap.size + 2, 0, none⟩, tc := 1, tags := [⟨#[115, 104, 111, 101]⟩] }) 4 _ rfl HTc.out).mono (by omega)⟩
  case rest =>
  clear HX hxok
  obtain ⟨x, hxk, hxok, hP⟩ := hcut
  have HX := Lib.hid hP
  clear hP
  have s10 := HX.out.strm
  go_wp2_with fail
  with_reducible refine (pick_at S _ [0, 0, 0, 500, 3000] 5 _ _ _ _ s10 (by omega) rfl (by omega) (by omega) (by simp) (by simp)).mono ?_
  rintro e w8 ⟨v, hm, rfl, k8, s8⟩
  have hv : 0 ≤ v ∧ v ≤ 3000 := by
    simp only [List.mem_cons, List.mem_nil_iff, or_false] at hm
    omega
  obtain ⟨hv0, hv1⟩ := hv
  have HX8 := Lib.hid (HX.out.draw k8 s8)
  clear HX k8 s10 hm
  have c1 := HX8.out.box.cell 5 _ rfl
  have f1 := HX8.out.box.free 5
  go_upto_region 12 with (fail)
  have HXp := Lib.hid (HX8.out.put (x' := { x with least := v }) 5 (.int .i64 v) rfl HX8.out.tg)
  clear c1 f1 HX8 s8
  obtain ⟨x, hxk2, hxok2, HX11⟩ : ∃ y : Of, y.key = key ∧ Hid y.ok ∧ Hid (OfW w S q0 q y (K + 8 + 1) (w8.setCell ⟨q, 5, none⟩ (.int .i64 v))) := ⟨{ x with least := v }, hxk, Lib.hid (hxok.out.ok_least v (by omega) (by omega)), HXp⟩
  clear HXp hxk hxok hv0 hv1
  generalize w8.setCell ⟨q, 5, none⟩ (.int .i64 v) = w11 at *
  have hxk := hxk2
  have hxok := hxok2
  clear hxk2 hxok2
  have s11 := HX11.out.strm
  go_wp2_with fail
  with_reducible refine (pick_at S _ [0, 0, 0, 100, 333] 5 _ _ _ _ s11 (by omega) rfl (by omega) (by omega) (by simp) (by simp)).mono ?_
  rintro e w8 ⟨v, hm, rfl, k8, s8⟩
  have hv : 0 ≤ v ∧ v ≤ 333 := by
    simp only [List.mem_cons, List.mem_nil_iff, or_false] at hm
    omega
  obtain ⟨hv0, hv1⟩ := hv
  have HX8 := Lib.hid (HX11.out.draw k8 s8)
  clear HX11 k8 s11 hm
  have c1 := HX8.out.box.cell 6 _ rfl
  have f1 := HX8.out.box.free 6
  go_upto_region 13 with (fail)
  have HXp := Lib.hid (HX8.out.put (x' := { x with most := v }) 6 (.int .i64 v) rfl HX8.out.tg)
  clear c1 f1 HX8 s8
  obtain ⟨x, hxk2, hxok2, HX12⟩ : ∃ y : Of, y.key = key ∧ Hid y.ok ∧ Hid (OfW w S q0 q y (K + 8 + 1 + 1) (w8.setCell ⟨q, 6, none⟩ (.int .i64 v))) := ⟨{ x with most := v }, hxk, Lib.hid (hxok.out.ok_most v (by omega) (by omega)), HXp⟩
  clear HXp hxk hxok hv0 hv1
  generalize w8.setCell ⟨q, 6, none⟩ (.int .i64 v) = w12 at *
  have hxk := hxk2
  have hxok := hxok2
  clear hxk2 hxok2
  have s12 := HX12.out.strm
  go_wp2_with fail
  with_reducible refine (flip_any S _ _ _ s12 (by omega) (by omega)).mono ?_
  rintro e w13 ⟨b, rfl, k9, s13⟩
  have HX13 := Lib.hid (HX12.out.draw k9 s13)
  clear HX12 k9 s12
  go_upto_if 71 with (fail)
  go_cut [] (fun wx => ∃ x : Of, x.key = key ∧ Hid x.ok ∧ OfW w S q0 q x (K + 12) wx)
  case first =>
    cases b with
    | false =>
      go_wp2_with fail
      go_meet
      exact ⟨x, hxk, hxok, HX13.out.mono (by omega)⟩
    | true =>
      go_wp2_with fail
      with_reducible refine (one_at S _ [⟨#[103, 49]⟩, ⟨#[103, 50]⟩] 2 _ _ _ _ s13 (by omega) rfl (by omega) (by omega) (by simp) (by simp)).mono ?_
      rintro e w14 ⟨v, hm, rfl, k14, s14⟩
      have hv' : v.size ≤ 100 := by
        simp only [List.mem_cons, List.mem_nil_iff, or_false] at hm
        rcases hm with rfl | rfl <;> decide
      have HX14 := Lib.hid (HX13.out.draw k14 s14)
      clear HX13 k14 s13 hm
      have c1 := HX14.out.box.cell 7 _ rfl
      have f1 := HX14.out.box.free 7
      go_wp2_with fail
      go_meet
      exact ⟨{ x with group := v }, hxk, Lib.hid (hxok.out.ok_group v hv'), (HX14.out.put (x' := { x with group := v }) 7 (.string v) rfl HX14.out.tg).mono (by omega)⟩
  case rest =>
  clear HX13 hxok s13
  obtain ⟨x, hxk, hxok, hP⟩ := hcut
  have HX := Lib.hid hP
  clear hP
  have s14 := HX.out.strm
  go_wp2_with fail
  with_reducible refine (flip_any S _ _ _ s14 (by omega) (by omega)).mono ?_
  rintro e w15 ⟨b, rfl, k9, s15⟩
  have HX15 := Lib.hid (HX.out.draw k9 s15)
  clear HX k9 s14 s15
  have c1 := HX15.out.box.cell 8 _ rfl
  have f1 := HX15.out.box.free 8
  go_upto_region 16 with (fail)
  have HX16 := Lib.hid (HX15.out.put (x' := { x with alone := b }) 8 (.bool b) rfl HX15.out.tg)
  have hok := Lib.hid (hxok.out.ok_alone b)
  have hk2 := Lib.hid (show ({ x with alone := b } : Of).key = key from hxk)
  clear c1 f1 HX15 hxok hxk
  generalize w15.setCell ⟨q, 8, none⟩ (.bool b) = w16 at *
  generalize ({ x with alone := b } : Of) = y at *
  have HD := Lib.hid (HX16.out.done (K' := K + 20) (by omega) hok.out)
  rw [hk2.out] at HD
  have HB := Lib.hid HX16.out.box.xb
  obtain ⟨k0, kd', ia, ib, tv, tc, tags, le, mo, gr, al, od', fr', t2'⟩ := y
  obtain ⟨x0, x1, x2, x3, x4, x5, x6, x7, x8, x9, x10, x11⟩ := HB.out.at12
  obtain ⟨y0, y1, y2, y3, y4, y5, y6, y7, y8, y9, y10, y11⟩ := HX16.out.res.xb.at12
  have g0 := HX16.out.res.free 0
  have g1 := HX16.out.res.free 1
  have g2 := HX16.out.res.free 2
  have g3 := HX16.out.res.free 3
  have g4 := HX16.out.res.free 4
  have g5 := HX16.out.res.free 5
  have g6 := HX16.out.res.free 6
  have g7 := HX16.out.res.free 7
  have g8 := HX16.out.res.free 8
  have g9 := HX16.out.res.free 9
  have g10 := HX16.out.res.free 10
  have g11 := HX16.out.res.free 11
  have hne : q0 ≠ q := by have := HX16.out.lt; omega
  clear HX16 HB hok hk2
  go_wp2_with fail
  refine bodyPost_ret (v := .agg #[.string k0, .int .i64 kd', .int .i64 ia, .int .i64 ib, .slice tv tags.length tc, .int .i64 le, .int .i64 mo, .string gr, .bool al, .int .i64 od', .int .i64 fr', .int .i64 t2']) (by simp [results, Tryz.results22, go_sem, y0, y1, y2, y3, y4, y5, y6, y7, y8, y9, y10, y11]) rfl ?_
  exact HD.out
end Go.Proofs.YtdefjnefkdemiaaGreatDoor
