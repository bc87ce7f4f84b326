/- (*Stream).test: a condition without others in it (printed by gen_test.py). -/
import Derived.Test.YtdiioecpponnmaaGreatDoorMkP
import Derived.Deep.RegionWith
set_option linter.unusedVariables false
namespace Go.Proofs.YtdiioecpponnmaaGreatDoor
open Go.RowKit

theorem nd_ok {kind within number : Int} {name field sign : ByteArray} {va wa : Option Addr} {vc wc : Nat} {vals : List Vl} {whs : List Wh} {aa : Option Addr} {ac : Nat} (h1 : -1000 ≤ kind ∧ kind ≤ 1000) (h2 : name.size ≤ 1000) (h3 : field.size ≤ 1000) (h4 : sign.size ≤ 1000) (h5 : vals.length ≤ vc ∧ vc ≤ maxLen ∧ vals.length ≤ 1000) (h6 : whs.length ≤ wc ∧ wc ≤ maxLen ∧ whs.length ≤ 1000)
    (h7 : -100000000 ≤ within ∧ within ≤ 100000000) (h8 : -100000000 ≤ number ∧ number ≤ 100000000) (h9 : ∀ v ∈ vals, v.ok) (h10 : ∀ v ∈ whs, v.ok) : Nd.ok ⟨kind, name, field, sign, va, vc, vals, wa, wc, whs, within, number, aa, ac⟩ :=
  ⟨by unfold i64B; simp only; omega, h2, h3, h4, h5, h6, by unfold i64B; simp only; omega, by unfold i64B; simp only; omega, h9, h10⟩
theorem le_maxLen {n : Nat} (h : n ≤ 1000000) : n ≤ maxLen := by unfold maxLen; omega
theorem mem_size {l : List ByteArray} {x : ByteArray} {n : Nat} (h : x ∈ l) (hl : l.all (fun s => decide (s.size ≤ n)) = true) : x.size ≤ n := by
  have := List.all_eq_true.1 hl x h
  simpa using this
set_option maxRecDepth 100000 in
set_option maxHeartbeats 16000000 in
theorem test_any (S : SC) (K : Nat) (w : World) (hs : Strm w S K) (hK : K ≤ 10000) : Calls Tryz.prog 10 #[S.p] w (GenC S (K + 40) w 1 1) := by
  obtain ⟨i0, hi, hz0, hz1, hz2⟩ := info_parts infoValue
  have HM := Lib.hid (Mk.new hs condZ 30)
  clear hs
  go_enter Tryz.func10, Tryz.ntmps10
  go_upto_region 1 with (fail)
  unfold condZ at HM
  simp only [List.toArray] at HM
  generalize w.alloc (.cells _ 30) = w1 at *
  have HM0 := Lib.hid (show Mk w S w.heap.size condZ 30 K w1 from HM.out)
  clear HM
  obtain ⟨q0, hq0⟩ : ∃ z, w.heap.size = z := ⟨_, rfl⟩
  rw [hq0] at HM0 ⊢
  clear hq0
  have s1 := HM0.out.st
  go_wp2_with fail
  with_reducible refine (condFields_any _).mono ?_
  rintro e w2 ⟨rfl, rfl⟩
  go_wp2_with fail
  with_reducible refine (one_at S _ [⟨#[97, 103, 101]⟩, ⟨#[99, 105, 116, 121]⟩, ⟨#[110, 101, 119, 115]⟩, ⟨#[115, 105, 110, 99, 101, 45, 100, 97, 121]⟩] 4 _ _ _ _ s1 (by omega) rfl (by omega) (by omega) (by simp) (by simp)).mono ?_
  rintro e w3 ⟨name, hnm, rfl, k3, s3⟩
  have hname : name.size ≤ 1000 := mem_size hnm (by decide)
  have HM3 := Lib.hid (HM0.out.draw k3 s3)
  clear HM0 k3 s1 hnm
  go_wp2_with fail
  with_reducible refine (condEvents_any _).mono ?_
  rintro e w4 ⟨rfl, rfl⟩
  go_wp2_with fail
  with_reducible refine (one_at S _ [⟨#[98, 117, 121]⟩, ⟨#[111, 112, 101, 110]⟩, ⟨#[118, 105, 115, 105, 116]⟩] 3 _ _ _ _ s3 (by omega) rfl (by omega) (by omega) (by simp) (by simp)).mono ?_
  rintro e w5 ⟨event, hev, rfl, k5, s5⟩
  have hevent : event.size ≤ 1000 := mem_size hev (by decide)
  have HM5 := Lib.hid (HM3.out.draw k5 s5)
  clear HM3 k5 s3 hev
  go_wp2_with fail
  with_reducible refine (pick_at S _ [0, 0, 1, 30, 60, 1440, 2880] 7 _ _ _ _ s5 (by omega) rfl (by omega) (by omega) (by simp) (by simp)).mono ?_
  rintro e w6 ⟨within, hwi, rfl, k6, s6⟩
  have hwithin : 0 ≤ within ∧ within ≤ 2880 := by
    simp only [List.mem_cons, List.mem_nil_iff, or_false] at hwi
    omega
  have HM6 := Lib.hid (HM5.out.draw k6 s6)
  clear HM5 k6 s5 hwi
  go_wp2_with fail
  with_reducible refine (next_any S _ _ _ s6 (by omega) (by omega)).mono ?_
  rintro e w7 ⟨r, ⟨hr0, hr1, -⟩, rfl, k7, s7⟩
  have hr2 := hr1 (by omega)
  have HM7 := Lib.hid (HM6.out.draw k7 s7)
  have HP7 := Lib.hid (Pt.nil q0 w7)
  clear HM6 k7 s6 hr1
  have hwi1 := hwithin.1
  have hwi2 := hwithin.2
  clear hwithin
  have hr : r = 0 ∨ r = 1 ∨ r = 2 ∨ r = 3 ∨ r = 4 ∨ r = 5 ∨ r = 6 ∨ r = 7 ∨ r = 8 ∨ r = 9 := by omega
  clear hr0 hr2
  rcases hr with rfl | rfl | rfl | rfl | rfl | rfl | rfl | rfl | rfl | rfl
  · go_wp2_with fail
    with_reducible refine (pick_at S _ [1, 2] 2 _ _ _ _ s7 (by omega) rfl (by omega) (by omega) (by simp) (by simp)).mono ?_
    rintro e w8 ⟨kind, hm, rfl, kk, s8⟩
    have hkind : 1 ≤ kind ∧ kind ≤ 2 := by
      simp only [List.mem_cons, List.mem_nil_iff, or_false] at hm
      omega
    have HM8 := Lib.hid (HM7.out.draw kk s8)
    have HP8 := Lib.hid (HP7.out.kept kk (Nat.le_of_lt HM8.out.sg))
    clear hm kk HM7 HP7 s7
    have hkind1 := hkind.1
    have hkind2 := hkind.2
    clear hkind
    go_wp2_with (refine wpList_store_oc _ rfl _ _ _ rfl q0 _ [.int .i64 kind, .string ⟨#[]⟩, .string ⟨#[]⟩, .string ⟨#[]⟩, .slice none 0 0, .slice none 0 0, .int .i64 0, .int .i64 0, .slice none 0 0] _ rfl rfl HM8.out.ob sizeCond rfl rfl ?_)
    intro wz oz kz
    have HMz := Lib.hid (HM8.out.write oz kz)
    have HPz := Lib.hid (HP8.out.kept kz (Nat.le_refl _))
    have r0 := oz.cell 0 _ rfl
    have r1 := oz.cell 1 _ rfl
    have r2 := oz.cell 2 _ rfl
    have r3 := oz.cell 3 _ rfl
    have r4 := oz.cell 4 _ rfl
    have r5 := oz.cell 5 _ rfl
    have r6 := oz.cell 6 _ rfl
    have r7 := oz.cell 7 _ rfl
    have r8 := oz.cell 8 _ rfl
    clear oz kz HM8 HP8
    go_wp2_with fail
    refine bodyPost_ret (v := .agg #[.int .i64 kind, .string ⟨#[]⟩, .string ⟨#[]⟩, .string ⟨#[]⟩, .slice none 0 0, .slice none 0 0, .int .i64 0, .int .i64 0, .slice none 0 0]) (by simp [results, Tryz.results10, go_sem, r0, r1, r2, r3, r4, r5, r6, r7, r8]) rfl ?_
    exact leafC (K := K + 40) (M := 1) (n := ⟨kind, ⟨#[]⟩, ⟨#[]⟩, ⟨#[]⟩, none, 0, [], none, 0, [], 0, 0, none, 0⟩) HPz.out (nd_ok (by omega) (by decide) (by decide) (by decide) ⟨Nat.le_refl _, Nat.zero_le _, Nat.zero_le _⟩ ⟨Nat.le_refl _, Nat.zero_le _, Nat.zero_le _⟩ (by omega) (by omega) (by simp) (by simp)) rfl rfl HMz.out.lo HMz.out.gr (strm_mono HMz.out.st (by omega)) (Nat.le_refl _) (by first | (simp; done) | (simp only; omega)) (by first | (simp; done) | (simp only; omega))
  · go_wp2_with (refine wpList_store_oc _ rfl _ _ _ rfl q0 _ [.int .i64 6, .string name, .string ⟨#[]⟩, .string ⟨#[]⟩, .slice none 0 0, .slice none 0 0, .int .i64 0, .int .i64 0, .slice none 0 0] _ rfl rfl HM7.out.ob sizeCond rfl rfl ?_)
    intro wz oz kz
    have HMz := Lib.hid (HM7.out.write oz kz)
    have HPz := Lib.hid (HP7.out.kept kz (Nat.le_refl _))
    have r0 := oz.cell 0 _ rfl
    have r1 := oz.cell 1 _ rfl
    have r2 := oz.cell 2 _ rfl
    have r3 := oz.cell 3 _ rfl
    have r4 := oz.cell 4 _ rfl
    have r5 := oz.cell 5 _ rfl
    have r6 := oz.cell 6 _ rfl
    have r7 := oz.cell 7 _ rfl
    have r8 := oz.cell 8 _ rfl
    clear oz kz HM7 HP7
    go_wp2_with fail
    refine bodyPost_ret (v := .agg #[.int .i64 6, .string name, .string ⟨#[]⟩, .string ⟨#[]⟩, .slice none 0 0, .slice none 0 0, .int .i64 0, .int .i64 0, .slice none 0 0]) (by simp [results, Tryz.results10, go_sem, r0, r1, r2, r3, r4, r5, r6, r7, r8]) rfl ?_
    exact leafC (K := K + 40) (M := 1) (n := ⟨6, name, ⟨#[]⟩, ⟨#[]⟩, none, 0, [], none, 0, [], 0, 0, none, 0⟩) HPz.out (nd_ok (by omega) hname (by decide) (by decide) ⟨Nat.le_refl _, Nat.zero_le _, Nat.zero_le _⟩ ⟨Nat.le_refl _, Nat.zero_le _, Nat.zero_le _⟩ (by omega) (by omega) (by simp) (by simp)) rfl rfl HMz.out.lo HMz.out.gr (strm_mono HMz.out.st (by omega)) (Nat.le_refl _) (by first | (simp; done) | (simp only; omega)) (by first | (simp; done) | (simp only; omega))
  · go_wp2_with fail
    have HT8 := Lib.hid (show TW w S q0 w7.heap.size name (.slice none 0 0) [] (K + 1 + 1 + 1 + 1) (w7.alloc (.cells #[.int .i64 8, .string name, .string ⟨#[]⟩, .string ⟨#[]⟩, .slice none 0 0, .slice none 0 0, .int .i64 0, .int .i64 0, .slice none 0 0] 30)) from ⟨HM7.out.alloc _, OB.new w7 [.int .i64 8, .string name, .string ⟨#[]⟩, .string ⟨#[]⟩, .slice none 0 0, .slice none 0 0, .int .i64 0, .int .i64 0, .slice none 0 0] 30, World.ownsRow_nil _ _ _ _, HM7.out.ob.lt⟩)
    clear HM7 HP7 s7
    generalize w7.alloc (.cells _ 30) = w8 at *
    generalize w7.heap.size = q at *
    have s8 := HT8.out.mkk.st
    with_reducible refine (range_any S _ 1 3 _ s8 (by omega) (by omega) (by omega) (by omega)).mono ?_
    rintro e w9 ⟨m', ⟨hm0, hm1⟩, rfl, kk, s9⟩
    obtain ⟨m, rfl⟩ := Int.eq_ofNat_of_zero_le (show 0 ≤ m' by omega)
    have hm3 : m ≤ 3 := by omega
    have hm1' : 1 ≤ m := by omega
    have HT9 := Lib.hid (HT8.out.draw kk s9)
    clear kk s8 HT8 hm0 hm1 s9
    go_wp2_with fail
    go_loopw [34] (fun i wr => ∃ (k : Nat) (cur : Value) (l : List Vl), k ≤ m ∧ i = .int .i64 k ∧ l.length = k ∧ Hid (∀ x ∈ l, x.ok) ∧ TW w S q0 q name cur l (K + 1 + 1 + 1 + 1 + 1 + 2 * k) wr) (fun i _ => m - (intOf i).toNat)
    case atStart => exact ⟨0, _, [], Nat.zero_le _, rfl, rfl, Lib.hid (by simp), HT9.out⟩
    case round =>
      obtain ⟨k, cur, l, hk, rfl, hl, HOK, hT⟩ := hrel
      have HT := Lib.hid hT
      have hll := Lib.hid hl
      clear hT HT9 hl
      by_cases hlt : k < m
      · have hnl : l.length ≤ 3 := by have := hll.out; omega
        go_upto_region 12 with (fail)
        refine wp_region_any (by kernel_rfl) ?_
        change wpAny _ _ _ _ _ _ _ (World.drew _)
        have HTd := Lib.hid HT.out.drew
        clear HT
        generalize World.drew _ = wd at *
        refine wpAny_take (i := 0) (oi := ⟨some 36, _, _, _, _, _⟩) (v := (.pointer (some ⟨q, 4, none⟩))) rfl (by kernel_rfl) (by kernel_rfl) (by kernel_rfl) (fun _ _ _ h => h) (Or.inl ⟨by rfl, fun w => by go_simp⟩) ?_
        refine wpAny_take (i := 2) (oi := ⟨some 38, _, _, _, _, _⟩) (v := S.p) rfl (by kernel_rfl) (by kernel_rfl) (by kernel_rfl) (fun _ _ _ h => h) (Or.inl ⟨by rfl, fun w => by go_simp⟩) ?_
        refine wpAny_take (i := 3) (oi := ⟨some 39, _, _, _, _, _⟩) (v := .string name) rfl (by kernel_rfl) (by kernel_rfl) (by kernel_rfl) (fun _ _ _ h => h) (Or.inl ⟨by rfl, fun w => by go_simp⟩) ?_
        refine wpAny_mask (n := 3) (m := 6) #[true, false, true, true, false, false, false, false, false] [1, 4, 5] (fun i => if i = 5 then [4] else []) [37, 40, 41] (fun d => if d = 37 then u37 else if d = 40 then u40 else u41) (JV w S q0 q name cur l (K + 1 + 1 + 1 + 1 + 1 + 2 * k) 37 40 41) rfl (by decide) (by kernel_rfl) (by kernel_rfl) ?stp ?hsp ?hendp
        case stp => exact ⟨HTd.out, fun e => (by cases e), fun e => (by cases e), fun e => (by cases e)⟩
        case hsp =>
          intro i hi b u wx hbi hD hJ
          simp only [List.mem_cons, List.mem_nil_iff, or_false] at hi
          have HJ := Lib.hid hJ
          rcases hi with rfl | rfl | rfl
          · refine wpOp_calm (o := ⟨some 37, ?ap1, ?ap2, ?ap3, ?ap4, ?ap5⟩) ?api ?apg ?_
            case api => exact rfl
            case apg => exact rfl
            intro K' Q' hK'
            have HK := Lib.hid hK'
            clear hK'
            have y1 := hJ.base.bx.cell 4 _ rfl
            have yl := hJ.base.bx.lt
            clear hJ
            simp only [setAll, List.foldl]
            go_simp
            exact HK.out _ _ ⟨upd u 37 cur, by kernel_rfl, ⟨HJ.out.base, fun _ => rfl, fun e => HJ.out.p4 e, fun e => HJ.out.p5 e⟩⟩
          · refine wpOp_calm (o := ⟨some 40, ?cp1, ?cp2, ?cp3, ?cp4, ?cp5⟩) ?cpi ?cpg ?_
            case cpi => exact rfl
            case cpg => exact rfl
            intro K' Q' hK'
            have HK := Lib.hid hK'
            clear hK'
            have C := fieldValue_any S (K + 1 + 1 + 1 + 1 + 1 + 2 * k) name wx (strm_mono hJ.base.mkk.st (by rw [hbi]; exact Nat.le_refl _)) (by omega)
            have HC := Lib.hid C
            clear hJ C
            simp only [setAll, List.foldl]
            go_simp
            refine HC.out.mono ?_
            rintro e w' ⟨x, hx, rfl, k', st⟩
            exact HK.out _ _ ⟨upd u 40 (.agg #[.int .i64 x.kind, .string x.text, .int .i64 x.num]), by kernel_rfl, ⟨HJ.out.base.draw k' st, fun e => HJ.out.p1 e, fun _ => ⟨x, rfl, hx⟩, fun e => by
              obtain ⟨h, x, h1, h2, h3, h4⟩ := HJ.out.p5 e
              exact ⟨h, x, h1, h2, h3, h4.grown k' (fun e => h3 (Option.some.inj e).symm)⟩⟩⟩
          · refine wpOp_calm (o := ⟨some 41, ?dp1, ?dp2, ?dp3, ?dp4, ?dp5⟩) ?dpi ?dpg ?_
            case dpi => exact rfl
            case dpg => exact rfl
            intro K' Q' hK'
            have HK := Lib.hid hK'
            clear hK'
            obtain ⟨x, hz, hzm⟩ := HJ.out.p4 (hD 4 (by simp))
            clear hJ
            simp only [setAll, List.foldl, hz]
            go_simp
            exact HK.out _ _ ⟨upd (upd u 40 (.agg #[.int .i64 x.kind, .string x.text, .int .i64 x.num])) 41 (.slice (some ⟨wx.heap.size, 0, none⟩) 1 1), by kernel_rfl, by
              rw [upd_same hz]
              exact ⟨HJ.out.base.alloc _, fun e => HJ.out.p1 e, fun e => HJ.out.p4 e, fun _ => ⟨_, x, rfl, hzm, by have := strm_lt HJ.out.base.mkk.st; omega, OB.new wx [.int .i64 x.kind, .string x.text, .int .i64 x.num] 47⟩⟩⟩
        case hendp =>
          intro b u wx hb hJ
          obtain ⟨h, x, h5, hxo, hne, hc5⟩ := hJ.p5 (hb 5 (by simp))
          have h1 := hJ.p1 (hb 1 (by simp))
          have HW := Lib.hid (hJ.base.mono (show (K + 1 + 1 + 1 + 1 + 1 + 2 * k) + 2 * (b 4).toNat ≤ (K + 1 + 1 + 1 + 1 + 1 + 2 * (k + 1)) by have := Bool.toNat_le (b 4); omega))
          have hown := HW.out.own
          have hsz := HW.out.bx.lt
          obtain ⟨u40', hu40⟩ : ∃ z, u 40 = z := ⟨_, rfl⟩
          simp only [setAll, List.foldl, h1, h5, hu40]
          clear h1 h5 hb hJ hu40
          refine wpAny_ready (rs := [6]) (by kernel_rfl) (by simp) ?_
          refine AllReady.cons rfl (fun K6 hK6 => ?_) AllReady.nil
          refine step_append_lies (o := ⟨some 42, _, _, _, _, _⟩) _ (by rfl) (.tmp 37) (.tmp 41) 26 (by rfl) (q + 1) 47 i0 _ 3 32 Tryz.underlying26 hi hz0 hz1 hz2 rfl (by decide) cur l.length _ (by kernel_rfl) hown ⟨h, 0, none⟩ 1 1 [.int .i64 x.kind, .string x.text, .int .i64 x.num] (by kernel_rfl) (by rfl) ?cnp (by simp [Value.oneCell']) (by decide) (by unfold maxLen; omega) (by omega) hsz _ rfl ?_
          case cnp =>
            intro j y hy
            have := hc5.cell j y hy
            rw [Addr.add]
            split
            · rename_i h0; subst h0; exact this
            · simpa using this
          intro g cap wy own hgrow hat hlt2
          have HWy := Lib.hid (HW.out.app (x := x) hgrow own)
          have f1 := HWy.out.1
          have f2 := HWy.out.2.1
          have f3 := HWy.out.2.2.1
          refine hK6 _ _ ?_
          clear hK6 K6 own hgrow hat hown HW hc5
          refine wpAny_take (i := 7) (oi := ⟨some 43, _, _, _, _, _⟩) (v := (.pointer (some ⟨q, 4, none⟩))) rfl (by kernel_rfl) (by kernel_rfl) (by kernel_rfl) (fun _ _ _ h => h) (Or.inl ⟨by rfl, fun w => by go_simp⟩) ?_
          refine wpAny_ready (rs := [8]) (by kernel_rfl) (by simp) ?_
          refine AllReady.cons rfl (fun K8 hK8 => ?_) AllReady.nil
          go_simp
          refine hK8 _ _ ?_
          clear hK8 K8
          refine wpAny_done (by kernel_rfl) ?_ _
          have HS := Lib.hid HWy.out.2.2.2
          clear HWy f1 f2 f3
          go_wp2_with fail
          go_roundw
          case rel => exact ⟨k + 1, _, l ++ [x], by omega, by go_num, by simp [hll.out], Lib.hid (fun y hy => by
            rcases List.mem_append.1 hy with hy | hy
            · exact HOK.out y hy
            · obtain rfl := List.mem_singleton.1 hy
              exact hxo), HS.out⟩
          case measure => simp [intOf]; omega
      · obtain rfl : k = m := by omega
        have hkl := hll.out
        obtain ⟨a, c, rfl, hI, hc1, hc2⟩ := RAt.of_own HT.out.own (fun x _ => x.len)
        have hfar := Lib.hid (fun p off (e : a = some ⟨p, off, none⟩) => (HT.out.own.lt p (by rw [e]; rfl)).1)
        have hq0q := HT.out.lt
        have HPz := Lib.hid (show Pt q0 a l none [] wr from ⟨hI, RAt.nil _ _ _ _, fun g hg _ p off e => by have := hfar.out p off e; omega, fun g _ h => absurd h (by simp)⟩)
        have y0 := HT.out.bx.cell 0 _ rfl
        have y1 := HT.out.bx.cell 1 _ rfl
        have y2 := HT.out.bx.cell 2 _ rfl
        have y3 := HT.out.bx.cell 3 _ rfl
        have y4 := HT.out.bx.cell 4 _ rfl
        have y5 := HT.out.bx.cell 5 _ rfl
        have y6 := HT.out.bx.cell 6 _ rfl
        have y7 := HT.out.bx.cell 7 _ rfl
        have y8 := HT.out.bx.cell 8 _ rfl
        have yl := HT.out.bx.lt
        have HMz := Lib.hid HT.out.mkk
        rw [hkl] at y4
        clear HT hI hfar
        go_wp2_with (refine wpList_store_oc _ rfl _ _ _ rfl q0 _ [.int .i64 8, .string name, .string ⟨#[]⟩, .string ⟨#[]⟩, .slice a k c, .slice none 0 0, .int .i64 0, .int .i64 0, .slice none 0 0] _ rfl rfl HMz.out.ob sizeCond rfl rfl ?_)
        intro wz oz kz
        have HMy := Lib.hid (HMz.out.write oz kz)
        have HPy := Lib.hid (HPz.out.kept kz (Nat.le_refl _))
        have r0 := oz.cell 0 _ rfl
        have r1 := oz.cell 1 _ rfl
        have r2 := oz.cell 2 _ rfl
        have r3 := oz.cell 3 _ rfl
        have r4 := oz.cell 4 _ rfl
        have r5 := oz.cell 5 _ rfl
        have r6 := oz.cell 6 _ rfl
        have r7 := oz.cell 7 _ rfl
        have r8 := oz.cell 8 _ rfl
        clear oz kz HMz HPz y0 y1 y2 y3 y4 y5 y6 y7 y8 yl
        go_wp2_with fail
        refine bodyPost_ret (v := .agg #[.int .i64 8, .string name, .string ⟨#[]⟩, .string ⟨#[]⟩, .slice a k c, .slice none 0 0, .int .i64 0, .int .i64 0, .slice none 0 0]) (by simp [results, Tryz.results10, go_sem, r0, r1, r2, r3, r4, r5, r6, r7, r8]) rfl ?_
        have hlk := hll.out
        subst hlk
        exact leafC (K := K + 40) (M := 1) (n := ⟨8, name, ⟨#[]⟩, ⟨#[]⟩, a, c, l, none, 0, [], 0, 0, none, 0⟩) HPy.out (nd_ok (by omega) hname (by decide) (by decide) ⟨hc1, hc2, by omega⟩ ⟨Nat.le_refl _, Nat.zero_le _, Nat.zero_le _⟩ (by omega) (by omega) HOK.out (by simp)) rfl rfl HMy.out.lo HMy.out.gr (strm_mono HMy.out.st (by omega)) (Nat.le_refl _) (by first | (simp; done) | (simp only; omega)) (by first | (simp; done) | (simp only; omega))
  · go_wp2_with fail
    with_reducible refine (pick_at S _ [9, 10] 2 _ _ _ _ s7 (by omega) rfl (by omega) (by omega) (by simp) (by simp)).mono ?_
    rintro e w8 ⟨kind, hm, rfl, kk, s8⟩
    have hkind : 9 ≤ kind ∧ kind ≤ 10 := by
      simp only [List.mem_cons, List.mem_nil_iff, or_false] at hm
      omega
    have HM8 := Lib.hid (HM7.out.draw kk s8)
    have HP8 := Lib.hid (HP7.out.kept kk (Nat.le_of_lt HM8.out.sg))
    clear hm kk HM7 HP7 s7
    have hkind1 := hkind.1
    have hkind2 := hkind.2
    clear hkind
    go_wp2_with fail
    with_reducible refine (one_at S _ [⟨#[85]⟩, ⟨#[108]⟩, ⟨#[]⟩, ⟨#[85, 108, 109]⟩] 4 _ _ _ _ s8 (by omega) rfl (by omega) (by omega) (by simp) (by simp)).mono ?_
    rintro e w9 ⟨tx, hm, rfl, kk, s9⟩
    have htx : tx.size ≤ 1000 := mem_size hm (by decide)
    have HM9 := Lib.hid (HM8.out.draw kk s9)
    have HP9 := Lib.hid (HP8.out.kept kk (Nat.le_of_lt HM9.out.sg))
    clear hm kk HM8 HP8 s8
    have HMa := Lib.hid (HM9.out.alloc (.cells #[.int .i64 1, .string tx, .int .i64 0] 47))
    have hq0l := HM9.out.ob.lt
    have HPa := Lib.hid (show Pt q0 (some ⟨w9.heap.size, 0, none⟩) [⟨1, tx, 0⟩] none [] (w9.alloc (.cells #[.int .i64 1, .string tx, .int .i64 0] 47)) from ⟨vals_one w9 ⟨1, tx, 0⟩, RAt.nil _ _ _ _, fun g hg _ p off e => by injection e with e; injection e with e1 e2; omega, fun g _ h => absurd h (by simp)⟩)
    clear HM9 HP9 hq0l
    go_wp2_with (refine wpList_store_oc _ rfl _ _ _ rfl q0 _ [.int .i64 kind, .string name, .string ⟨#[]⟩, .string ⟨#[]⟩, .slice (some ⟨w9.heap.size, 0, none⟩) 1 1, .slice none 0 0, .int .i64 0, .int .i64 0, .slice none 0 0] _ rfl rfl HMa.out.ob sizeCond rfl rfl ?_)
    intro wz oz kz
    have HMz := Lib.hid (HMa.out.write oz kz)
    have HPz := Lib.hid (HPa.out.kept kz (Nat.le_refl _))
    have r0 := oz.cell 0 _ rfl
    have r1 := oz.cell 1 _ rfl
    have r2 := oz.cell 2 _ rfl
    have r3 := oz.cell 3 _ rfl
    have r4 := oz.cell 4 _ rfl
    have r5 := oz.cell 5 _ rfl
    have r6 := oz.cell 6 _ rfl
    have r7 := oz.cell 7 _ rfl
    have r8 := oz.cell 8 _ rfl
    clear oz kz HMa HPa
    go_wp2_with fail
    refine bodyPost_ret (v := .agg #[.int .i64 kind, .string name, .string ⟨#[]⟩, .string ⟨#[]⟩, .slice (some ⟨w9.heap.size, 0, none⟩) 1 1, .slice none 0 0, .int .i64 0, .int .i64 0, .slice none 0 0]) (by simp [results, Tryz.results10, go_sem, r0, r1, r2, r3, r4, r5, r6, r7, r8]) rfl ?_
    exact leafC (K := K + 40) (M := 1) (n := ⟨kind, name, ⟨#[]⟩, ⟨#[]⟩, (some ⟨w9.heap.size, 0, none⟩), 1, [⟨1, tx, 0⟩], none, 0, [], 0, 0, none, 0⟩) HPz.out (nd_ok (by omega) hname (by decide) (by decide) ⟨Nat.le_refl _, le_maxLen (by decide), by simp⟩ ⟨Nat.le_refl _, Nat.zero_le _, Nat.zero_le _⟩ (by omega) (by omega) (fun v hv => by obtain rfl := List.mem_singleton.1 hv; exact ⟨by unfold i64B; simp only; omega, htx, by unfold i64B; simp only; omega⟩) (by simp)) rfl rfl HMz.out.lo HMz.out.gr (strm_mono HMz.out.st (by omega)) (Nat.le_refl _) (by first | (simp; done) | (simp only; omega)) (by first | (simp; done) | (simp only; omega))
  · go_wp2_with fail
    ((with_reducible refine (wheres_any S _ _ s7 (by omega)).mono ?_); rintro e w8 ⟨wa, wc, whs, ⟨hwl, hwok⟩, rfl, hR, hwc1, hwc2, hF, kk, s8⟩)
    have HM8 := Lib.hid (HM7.out.draw kk s8)
    have hq0l := HM7.out.ob.lt
    have HP8 := Lib.hid (show Pt q0 none [] wa whs w8 from ⟨RAt.nil _ _ _ _, hR, fun g _ h => absurd h (by simp), fun g hg => hF g (by omega)⟩)
    have HWO := Lib.hid hwok
    obtain ⟨nw, hnw⟩ : ∃ z, whs.length = z := ⟨_, rfl⟩
    have HNW := Lib.hid hnw
    rw [hnw] at hwl hwc1 ⊢
    clear hR hF kk hwok hnw hq0l HM7 HP7 s7
    go_wp2_with fail
    with_reducible refine (compareSign_any S _ _ s8 (by omega)).mono ?_
    rintro e w9 ⟨sg, hm, rfl, kk, s9⟩
    have hsg : sg.size ≤ 1000 := mem_size hm (by decide)
    have HM9 := Lib.hid (HM8.out.draw kk s9)
    have HP9 := Lib.hid (HP8.out.kept kk (Nat.le_of_lt HM9.out.sg))
    clear hm kk HM8 HP8 s8
    go_wp2_with fail
    with_reducible refine (pick_at S _ [0, 1, 2, 3, -1] 5 _ _ _ _ s9 (by omega) rfl (by omega) (by omega) (by simp) (by simp)).mono ?_
    rintro e w10 ⟨nm, hm, rfl, kk, s10⟩
    have hnm : -1 ≤ nm ∧ nm ≤ 3 := by
      simp only [List.mem_cons, List.mem_nil_iff, or_false] at hm
      omega
    have HMa := Lib.hid (HM9.out.draw kk s10)
    have HPa := Lib.hid (HP9.out.kept kk (Nat.le_of_lt HMa.out.sg))
    clear hm kk HM9 HP9 s9
    have hnm1 := hnm.1
    have hnm2 := hnm.2
    clear hnm
    go_wp2_with (refine wpList_store_oc _ rfl _ _ _ rfl q0 _ [.int .i64 11, .string event, .string ⟨#[]⟩, .string sg, .slice none 0 0, .slice wa nw wc, .int .i64 within, .int .i64 nm, .slice none 0 0] _ rfl rfl HMa.out.ob sizeCond rfl rfl ?_)
    intro wz oz kz
    have HMz := Lib.hid (HMa.out.write oz kz)
    have HPz := Lib.hid (HPa.out.kept kz (Nat.le_refl _))
    have r0 := oz.cell 0 _ rfl
    have r1 := oz.cell 1 _ rfl
    have r2 := oz.cell 2 _ rfl
    have r3 := oz.cell 3 _ rfl
    have r4 := oz.cell 4 _ rfl
    have r5 := oz.cell 5 _ rfl
    have r6 := oz.cell 6 _ rfl
    have r7 := oz.cell 7 _ rfl
    have r8 := oz.cell 8 _ rfl
    clear oz kz HMa HPa
    go_wp2_with fail
    refine bodyPost_ret (v := .agg #[.int .i64 11, .string event, .string ⟨#[]⟩, .string sg, .slice none 0 0, .slice wa nw wc, .int .i64 within, .int .i64 nm, .slice none 0 0]) (by simp [results, Tryz.results10, go_sem, r0, r1, r2, r3, r4, r5, r6, r7, r8]) rfl ?_
    have hnw2 := HNW.out
    subst hnw2
    exact leafC (K := K + 40) (M := 1) (n := ⟨11, event, ⟨#[]⟩, sg, none, 0, [], wa, wc, whs, within, nm, none, 0⟩) HPz.out (nd_ok (by omega) hevent (by decide) hsg ⟨Nat.le_refl _, Nat.zero_le _, Nat.zero_le _⟩ ⟨by rw [HNW.out]; exact hwc1, hwc2, by rw [HNW.out]; omega⟩ (by omega) (by omega) (by simp) (HWO.out)) rfl rfl HMz.out.lo HMz.out.gr (strm_mono HMz.out.st (by omega)) (Nat.le_refl _) (by first | (simp; done) | (simp only; omega)) (by first | (simp; done) | (simp only; omega))
  · go_wp2_with fail
    ((with_reducible refine (wheres_any S _ _ s7 (by omega)).mono ?_); rintro e w8 ⟨wa, wc, whs, ⟨hwl, hwok⟩, rfl, hR, hwc1, hwc2, hF, kk, s8⟩)
    have HM8 := Lib.hid (HM7.out.draw kk s8)
    have hq0l := HM7.out.ob.lt
    have HP8 := Lib.hid (show Pt q0 none [] wa whs w8 from ⟨RAt.nil _ _ _ _, hR, fun g _ h => absurd h (by simp), fun g hg => hF g (by omega)⟩)
    have HWO := Lib.hid hwok
    obtain ⟨nw, hnw⟩ : ∃ z, whs.length = z := ⟨_, rfl⟩
    have HNW := Lib.hid hnw
    rw [hnw] at hwl hwc1 ⊢
    clear hR hF kk hwok hnw hq0l HM7 HP7 s7
    go_wp2_with fail
    with_reducible refine (compareSign_any S _ _ s8 (by omega)).mono ?_
    rintro e w9 ⟨sg, hm, rfl, kk, s9⟩
    have hsg : sg.size ≤ 1000 := mem_size hm (by decide)
    have HM9 := Lib.hid (HM8.out.draw kk s9)
    have HP9 := Lib.hid (HP8.out.kept kk (Nat.le_of_lt HM9.out.sg))
    clear hm kk HM8 HP8 s8
    go_wp2_with fail
    with_reducible refine (pick_at S _ [0, 1, 2, 3, -1] 5 _ _ _ _ s9 (by omega) rfl (by omega) (by omega) (by simp) (by simp)).mono ?_
    rintro e w10 ⟨nm, hm, rfl, kk, s10⟩
    have hnm : -1 ≤ nm ∧ nm ≤ 3 := by
      simp only [List.mem_cons, List.mem_nil_iff, or_false] at hm
      omega
    have HMa := Lib.hid (HM9.out.draw kk s10)
    have HPa := Lib.hid (HP9.out.kept kk (Nat.le_of_lt HMa.out.sg))
    clear hm kk HM9 HP9 s9
    have hnm1 := hnm.1
    have hnm2 := hnm.2
    clear hnm
    go_wp2_with (refine wpList_store_oc _ rfl _ _ _ rfl q0 _ [.int .i64 11, .string event, .string ⟨#[]⟩, .string sg, .slice none 0 0, .slice wa nw wc, .int .i64 within, .int .i64 nm, .slice none 0 0] _ rfl rfl HMa.out.ob sizeCond rfl rfl ?_)
    intro wz oz kz
    have HMz := Lib.hid (HMa.out.write oz kz)
    have HPz := Lib.hid (HPa.out.kept kz (Nat.le_refl _))
    have r0 := oz.cell 0 _ rfl
    have r1 := oz.cell 1 _ rfl
    have r2 := oz.cell 2 _ rfl
    have r3 := oz.cell 3 _ rfl
    have r4 := oz.cell 4 _ rfl
    have r5 := oz.cell 5 _ rfl
    have r6 := oz.cell 6 _ rfl
    have r7 := oz.cell 7 _ rfl
    have r8 := oz.cell 8 _ rfl
    clear oz kz HMa HPa
    go_wp2_with fail
    refine bodyPost_ret (v := .agg #[.int .i64 11, .string event, .string ⟨#[]⟩, .string sg, .slice none 0 0, .slice wa nw wc, .int .i64 within, .int .i64 nm, .slice none 0 0]) (by simp [results, Tryz.results10, go_sem, r0, r1, r2, r3, r4, r5, r6, r7, r8]) rfl ?_
    have hnw2 := HNW.out
    subst hnw2
    exact leafC (K := K + 40) (M := 1) (n := ⟨11, event, ⟨#[]⟩, sg, none, 0, [], wa, wc, whs, within, nm, none, 0⟩) HPz.out (nd_ok (by omega) hevent (by decide) hsg ⟨Nat.le_refl _, Nat.zero_le _, Nat.zero_le _⟩ ⟨by rw [HNW.out]; exact hwc1, hwc2, by rw [HNW.out]; omega⟩ (by omega) (by omega) (by simp) (HWO.out)) rfl rfl HMz.out.lo HMz.out.gr (strm_mono HMz.out.st (by omega)) (Nat.le_refl _) (by first | (simp; done) | (simp only; omega)) (by first | (simp; done) | (simp only; omega))
  · go_wp2_with fail
    with_reducible refine (one_at S _ [⟨#[99, 101, 110, 116, 115]⟩, ⟨#[99, 101, 110, 116, 115]⟩, ⟨#[105, 116, 101, 109]⟩] 3 _ _ _ _ s7 (by omega) rfl (by omega) (by omega) (by simp) (by simp)).mono ?_
    rintro e w8 ⟨fd, hm, rfl, kk, s8⟩
    have hfd : fd.size ≤ 1000 := mem_size hm (by decide)
    have HM8 := Lib.hid (HM7.out.draw kk s8)
    have HP8 := Lib.hid (HP7.out.kept kk (Nat.le_of_lt HM8.out.sg))
    clear hm kk HM7 HP7 s7
    go_wp2_with fail
    ((with_reducible refine (wheres_any S _ _ s8 (by omega)).mono ?_); rintro e w9 ⟨wa, wc, whs, ⟨hwl, hwok⟩, rfl, hR, hwc1, hwc2, hF, kk, s9⟩)
    have HM9 := Lib.hid (HM8.out.draw kk s9)
    have hq0l := HM8.out.ob.lt
    have HP9 := Lib.hid (show Pt q0 none [] wa whs w9 from ⟨RAt.nil _ _ _ _, hR, fun g _ h => absurd h (by simp), fun g hg => hF g (by omega)⟩)
    have HWO := Lib.hid hwok
    obtain ⟨nw, hnw⟩ : ∃ z, whs.length = z := ⟨_, rfl⟩
    have HNW := Lib.hid hnw
    rw [hnw] at hwl hwc1 ⊢
    clear hR hF kk hwok hnw hq0l HM8 HP8 s8
    go_wp2_with fail
    with_reducible refine (compareSign_any S _ _ s9 (by omega)).mono ?_
    rintro e w10 ⟨sg, hm, rfl, kk, s10⟩
    have hsg : sg.size ≤ 1000 := mem_size hm (by decide)
    have HMa := Lib.hid (HM9.out.draw kk s10)
    have HPa := Lib.hid (HP9.out.kept kk (Nat.le_of_lt HMa.out.sg))
    clear hm kk HM9 HP9 s9
    go_wp2_with fail
    with_reducible refine (pick_at S _ [0, 5, 100, 105, -5] 5 _ _ _ _ s10 (by omega) rfl (by omega) (by omega) (by simp) (by simp)).mono ?_
    rintro e w11 ⟨nm, hm, rfl, kk, s11⟩
    have hnm : -5 ≤ nm ∧ nm ≤ 105 := by
      simp only [List.mem_cons, List.mem_nil_iff, or_false] at hm
      omega
    have HMb := Lib.hid (HMa.out.draw kk s11)
    have HPb := Lib.hid (HPa.out.kept kk (Nat.le_of_lt HMb.out.sg))
    clear hm kk HMa HPa s10
    have hnm1 := hnm.1
    have hnm2 := hnm.2
    clear hnm
    go_wp2_with (refine wpList_store_oc _ rfl _ _ _ rfl q0 _ [.int .i64 12, .string event, .string fd, .string sg, .slice none 0 0, .slice wa nw wc, .int .i64 within, .int .i64 nm, .slice none 0 0] _ rfl rfl HMb.out.ob sizeCond rfl rfl ?_)
    intro wz oz kz
    have HMz := Lib.hid (HMb.out.write oz kz)
    have HPz := Lib.hid (HPb.out.kept kz (Nat.le_refl _))
    have r0 := oz.cell 0 _ rfl
    have r1 := oz.cell 1 _ rfl
    have r2 := oz.cell 2 _ rfl
    have r3 := oz.cell 3 _ rfl
    have r4 := oz.cell 4 _ rfl
    have r5 := oz.cell 5 _ rfl
    have r6 := oz.cell 6 _ rfl
    have r7 := oz.cell 7 _ rfl
    have r8 := oz.cell 8 _ rfl
    clear oz kz HMb HPb
    go_wp2_with fail
    refine bodyPost_ret (v := .agg #[.int .i64 12, .string event, .string fd, .string sg, .slice none 0 0, .slice wa nw wc, .int .i64 within, .int .i64 nm, .slice none 0 0]) (by simp [results, Tryz.results10, go_sem, r0, r1, r2, r3, r4, r5, r6, r7, r8]) rfl ?_
    have hnw2 := HNW.out
    subst hnw2
    exact leafC (K := K + 40) (M := 1) (n := ⟨12, event, fd, sg, none, 0, [], wa, wc, whs, within, nm, none, 0⟩) HPz.out (nd_ok (by omega) hevent hfd hsg ⟨Nat.le_refl _, Nat.zero_le _, Nat.zero_le _⟩ ⟨by rw [HNW.out]; exact hwc1, hwc2, by rw [HNW.out]; omega⟩ (by omega) (by omega) (by simp) (HWO.out)) rfl rfl HMz.out.lo HMz.out.gr (strm_mono HMz.out.st (by omega)) (Nat.le_refl _) (by first | (simp; done) | (simp only; omega)) (by first | (simp; done) | (simp only; omega))
  · go_wp2_with fail
    ((with_reducible refine (wheres_any S _ _ s7 (by omega)).mono ?_); rintro e w8 ⟨wa, wc, whs, ⟨hwl, hwok⟩, rfl, hR, hwc1, hwc2, hF, kk, s8⟩)
    have HM8 := Lib.hid (HM7.out.draw kk s8)
    have hq0l := HM7.out.ob.lt
    have HP8 := Lib.hid (show Pt q0 none [] wa whs w8 from ⟨RAt.nil _ _ _ _, hR, fun g _ h => absurd h (by simp), fun g hg => hF g (by omega)⟩)
    have HWO := Lib.hid hwok
    obtain ⟨nw, hnw⟩ : ∃ z, whs.length = z := ⟨_, rfl⟩
    have HNW := Lib.hid hnw
    rw [hnw] at hwl hwc1 ⊢
    clear hR hF kk hwok hnw hq0l HM7 HP7 s7
    go_wp2_with fail
    with_reducible refine (compareSign_any S _ _ s8 (by omega)).mono ?_
    rintro e w9 ⟨sg, hm, rfl, kk, s9⟩
    have hsg : sg.size ≤ 1000 := mem_size hm (by decide)
    have HM9 := Lib.hid (HM8.out.draw kk s9)
    have HP9 := Lib.hid (HP8.out.kept kk (Nat.le_of_lt HM9.out.sg))
    clear hm kk HM8 HP8 s8
    go_wp2_with fail
    with_reducible refine (pick_at S _ [0, 1, 30, 60, 1440] 5 _ _ _ _ s9 (by omega) rfl (by omega) (by omega) (by simp) (by simp)).mono ?_
    rintro e w10 ⟨nm, hm, rfl, kk, s10⟩
    have hnm : 0 ≤ nm ∧ nm ≤ 1440 := by
      simp only [List.mem_cons, List.mem_nil_iff, or_false] at hm
      omega
    have HMa := Lib.hid (HM9.out.draw kk s10)
    have HPa := Lib.hid (HP9.out.kept kk (Nat.le_of_lt HMa.out.sg))
    clear hm kk HM9 HP9 s9
    have hnm1 := hnm.1
    have hnm2 := hnm.2
    clear hnm
    go_wp2_with (refine wpList_store_oc _ rfl _ _ _ rfl q0 _ [.int .i64 13, .string event, .string ⟨#[]⟩, .string sg, .slice none 0 0, .slice wa nw wc, .int .i64 0, .int .i64 nm, .slice none 0 0] _ rfl rfl HMa.out.ob sizeCond rfl rfl ?_)
    intro wz oz kz
    have HMz := Lib.hid (HMa.out.write oz kz)
    have HPz := Lib.hid (HPa.out.kept kz (Nat.le_refl _))
    have r0 := oz.cell 0 _ rfl
    have r1 := oz.cell 1 _ rfl
    have r2 := oz.cell 2 _ rfl
    have r3 := oz.cell 3 _ rfl
    have r4 := oz.cell 4 _ rfl
    have r5 := oz.cell 5 _ rfl
    have r6 := oz.cell 6 _ rfl
    have r7 := oz.cell 7 _ rfl
    have r8 := oz.cell 8 _ rfl
    clear oz kz HMa HPa
    go_wp2_with fail
    refine bodyPost_ret (v := .agg #[.int .i64 13, .string event, .string ⟨#[]⟩, .string sg, .slice none 0 0, .slice wa nw wc, .int .i64 0, .int .i64 nm, .slice none 0 0]) (by simp [results, Tryz.results10, go_sem, r0, r1, r2, r3, r4, r5, r6, r7, r8]) rfl ?_
    have hnw2 := HNW.out
    subst hnw2
    exact leafC (K := K + 40) (M := 1) (n := ⟨13, event, ⟨#[]⟩, sg, none, 0, [], wa, wc, whs, 0, nm, none, 0⟩) HPz.out (nd_ok (by omega) hevent (by decide) hsg ⟨Nat.le_refl _, Nat.zero_le _, Nat.zero_le _⟩ ⟨by rw [HNW.out]; exact hwc1, hwc2, by rw [HNW.out]; omega⟩ (by omega) (by omega) (by simp) (HWO.out)) rfl rfl HMz.out.lo HMz.out.gr (strm_mono HMz.out.st (by omega)) (Nat.le_refl _) (by first | (simp; done) | (simp only; omega)) (by first | (simp; done) | (simp only; omega))
  · go_wp2_with fail
    with_reducible refine (condEvents_any _).mono ?_
    rintro e w8 ⟨rfl, rfl⟩
    go_wp2_with fail
    with_reducible refine (one_at S _ [⟨#[98, 117, 121]⟩, ⟨#[111, 112, 101, 110]⟩, ⟨#[118, 105, 115, 105, 116]⟩] 3 _ _ _ _ s7 (by omega) rfl (by omega) (by omega) (by simp) (by simp)).mono ?_
    rintro e w9 ⟨fd, hm, rfl, kk, s9⟩
    have hfd : fd.size ≤ 1000 := mem_size hm (by decide)
    have HM9 := Lib.hid (HM7.out.draw kk s9)
    have HP9 := Lib.hid (HP7.out.kept kk (Nat.le_of_lt HM9.out.sg))
    clear hm kk HM7 HP7 s7
    go_wp2_with (refine wpList_store_oc _ rfl _ _ _ rfl q0 _ [.int .i64 14, .string event, .string fd, .string ⟨#[]⟩, .slice none 0 0, .slice none 0 0, .int .i64 within, .int .i64 0, .slice none 0 0] _ rfl rfl HM9.out.ob sizeCond rfl rfl ?_)
    intro wz oz kz
    have HMz := Lib.hid (HM9.out.write oz kz)
    have HPz := Lib.hid (HP9.out.kept kz (Nat.le_refl _))
    have r0 := oz.cell 0 _ rfl
    have r1 := oz.cell 1 _ rfl
    have r2 := oz.cell 2 _ rfl
    have r3 := oz.cell 3 _ rfl
    have r4 := oz.cell 4 _ rfl
    have r5 := oz.cell 5 _ rfl
    have r6 := oz.cell 6 _ rfl
    have r7 := oz.cell 7 _ rfl
    have r8 := oz.cell 8 _ rfl
    clear oz kz HM9 HP9
    go_wp2_with fail
    refine bodyPost_ret (v := .agg #[.int .i64 14, .string event, .string fd, .string ⟨#[]⟩, .slice none 0 0, .slice none 0 0, .int .i64 within, .int .i64 0, .slice none 0 0]) (by simp [results, Tryz.results10, go_sem, r0, r1, r2, r3, r4, r5, r6, r7, r8]) rfl ?_
    exact leafC (K := K + 40) (M := 1) (n := ⟨14, event, fd, ⟨#[]⟩, none, 0, [], none, 0, [], within, 0, none, 0⟩) HPz.out (nd_ok (by omega) hevent hfd (by decide) ⟨Nat.le_refl _, Nat.zero_le _, Nat.zero_le _⟩ ⟨Nat.le_refl _, Nat.zero_le _, Nat.zero_le _⟩ (by omega) (by omega) (by simp) (by simp)) rfl rfl HMz.out.lo HMz.out.gr (strm_mono HMz.out.st (by omega)) (Nat.le_refl _) (by first | (simp; done) | (simp only; omega)) (by first | (simp; done) | (simp only; omega))
  · go_wp2_with fail
    with_reducible refine (compareSign_any S _ _ s7 (by omega)).mono ?_
    rintro e w8 ⟨sg, hm, rfl, kk, s8⟩
    have hsg : sg.size ≤ 1000 := mem_size hm (by decide)
    have HM8 := Lib.hid (HM7.out.draw kk s8)
    have HP8 := Lib.hid (HP7.out.kept kk (Nat.le_of_lt HM8.out.sg))
    clear hm kk HM7 HP7 s7
    go_wp2_with fail
    ((with_reducible refine (fieldValue_any S _ _ _ s8 (by omega)).mono ?_); rintro e w9 ⟨⟨vk, vt, vn⟩, hvo, rfl, kk, s9⟩)
    have HVO := Lib.hid hvo
    have HM9 := Lib.hid (HM8.out.draw kk s9)
    clear kk HM8 HP8 s8 hvo
    simp only [Vl.cells]
    have HMa := Lib.hid (HM9.out.alloc (.cells #[.int .i64 vk, .string vt, .int .i64 vn] 47))
    have hq0l := HM9.out.ob.lt
    have HPa := Lib.hid (show Pt q0 (some ⟨w9.heap.size, 0, none⟩) [⟨vk, vt, vn⟩] none [] (w9.alloc (.cells #[.int .i64 vk, .string vt, .int .i64 vn] 47)) from ⟨vals_one w9 ⟨vk, vt, vn⟩, RAt.nil _ _ _ _, fun g hg _ p off e => by injection e with e; injection e with e1 e2; omega, fun g _ h => absurd h (by simp)⟩)
    clear HM9 hq0l
    go_wp2_with (refine wpList_store_oc _ rfl _ _ _ rfl q0 _ [.int .i64 7, .string name, .string ⟨#[]⟩, .string sg, .slice (some ⟨w9.heap.size, 0, none⟩) 1 1, .slice none 0 0, .int .i64 0, .int .i64 0, .slice none 0 0] _ rfl rfl HMa.out.ob sizeCond rfl rfl ?_)
    intro wz oz kz
    have HMz := Lib.hid (HMa.out.write oz kz)
    have HPz := Lib.hid (HPa.out.kept kz (Nat.le_refl _))
    have r0 := oz.cell 0 _ rfl
    have r1 := oz.cell 1 _ rfl
    have r2 := oz.cell 2 _ rfl
    have r3 := oz.cell 3 _ rfl
    have r4 := oz.cell 4 _ rfl
    have r5 := oz.cell 5 _ rfl
    have r6 := oz.cell 6 _ rfl
    have r7 := oz.cell 7 _ rfl
    have r8 := oz.cell 8 _ rfl
    clear oz kz HMa HPa
    go_wp2_with fail
    refine bodyPost_ret (v := .agg #[.int .i64 7, .string name, .string ⟨#[]⟩, .string sg, .slice (some ⟨w9.heap.size, 0, none⟩) 1 1, .slice none 0 0, .int .i64 0, .int .i64 0, .slice none 0 0]) (by simp [results, Tryz.results10, go_sem, r0, r1, r2, r3, r4, r5, r6, r7, r8]) rfl ?_
    exact leafC (K := K + 40) (M := 1) (n := ⟨7, name, ⟨#[]⟩, sg, (some ⟨w9.heap.size, 0, none⟩), 1, [⟨vk, vt, vn⟩], none, 0, [], 0, 0, none, 0⟩) HPz.out (nd_ok (by omega) hname (by decide) hsg ⟨Nat.le_refl _, le_maxLen (by decide), by simp⟩ ⟨Nat.le_refl _, Nat.zero_le _, Nat.zero_le _⟩ (by omega) (by omega) (fun v hv => by obtain rfl := List.mem_singleton.1 hv; exact HVO.out) (by simp)) rfl rfl HMz.out.lo HMz.out.gr (strm_mono HMz.out.st (by omega)) (Nat.le_refl _) (by first | (simp; done) | (simp only; omega)) (by first | (simp; done) | (simp only; omega))
end Go.Proofs.YtdiioecpponnmaaGreatDoor
