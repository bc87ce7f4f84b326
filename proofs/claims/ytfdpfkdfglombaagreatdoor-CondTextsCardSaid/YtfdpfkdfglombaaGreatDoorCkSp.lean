/- (*Stream).test: a condition without others in it (printed by gen_test.py). -/
import Derived.Test.YtfdpfkdfglombaaGreatDoorCkMk
import Derived.Deep.RegionWith
import Derived.Test.YtfdpfkdfglombaaGreatDoorSgL
import Derived.Deep.Cut
import Derived.Deep.CutBlock
import Derived.Deep.DeepCutAuto
import Derived.Test.YtfdpfkdfglombaaGreatDoorMem
import Derived.Deep.MidRow
import Derived.Lib.SliceRun
import Derived.WalkSpells
import Derived.Test.YtfdpfkdfglombaaGreatDoorShelf
set_option linter.unusedVariables false
namespace Go.Proofs.YtfdpfkdfglombaaGreatDoor
open Go.RowKit

theorem nd_ok {kind within number : Int} {name field sign : ByteArray} {va wa : Option Addr} {vc wc : Nat} {vals : List Vl} {whs : List Wh} {aa : Option Addr} {ac : Nat} (h1 : -1000 ≤ kind ∧ kind ≤ 1000) (h2 : name.size ≤ 1000) (h3 : field.size ≤ 1000) (h4 : sign.size ≤ 1000) (h5 : vals.length ≤ vc ∧ vc ≤ maxLen ∧ vals.length ≤ 10) (h6 : whs.length ≤ wc ∧ wc ≤ maxLen ∧ whs.length ≤ 1000)
    (h7 : -100000000 ≤ within ∧ within ≤ 100000000) (h8 : -100000000 ≤ number ∧ number ≤ 100000000) (h9 : ∀ v ∈ vals, v.ok) (h10 : ∀ v ∈ whs, v.ok) : Nd.ok ⟨kind, name, field, sign, va, vc, vals, wa, wc, whs, within, number, aa, ac⟩ :=
  ⟨by unfold i64B; simp only; omega, h2, h3, h4, h5, h6, by unfold i64B; simp only; omega, by unfold i64B; simp only; omega, h9, h10⟩
theorem le_maxLen {n : Nat} (h : n ≤ 1000000) : n ≤ maxLen := by unfold maxLen; omega
theorem mem_size {l : List ByteArray} {x : ByteArray} {n : Nat} (h : x ∈ l) (hl : l.all (fun s => decide (s.size ≤ n)) = true) : x.size ≤ n := by
  have := List.all_eq_true.1 hl x h
  simpa using this
set_option maxRecDepth 100000 in
set_option maxHeartbeats 16000000 in
theorem test_any (S : SC) (K : Nat) (w : World) (hs : Strm w S K) (hK : K ≤ 10000) : Calls Tryz.prog 67 #[S.p] w (GenC S (K + 40) w 1 1) := by
  obtain ⟨i0, hi, hz0, hz1, hz2⟩ := info_parts infoValue
  have HM := Lib.hid (Mk.new hs condZ 30)
  clear hs
  go_enter Tryz.func67, Tryz.ntmps67
  go_upto_region 1 with (fail)
  unfold condZ at HM
  simp only [List.toArray] at HM
  generalize w.alloc (.cells _ 30) = w1 at *
  have HM0 := Lib.hid (show Mk w S w.heap.size condZ 30 K w1 from HM.out)
  clear HM
  obtain ⟨q0, hq0⟩ : ∃ z, w.heap.size = z := ⟨_, rfl⟩
  rw [hq0] at HM0 ⊢
  clear hq0
  have s1 := HM0.out.st
  go_wp2_with fail
  with_reducible refine (condFields_any _).mono ?_
  rintro e w2 ⟨rfl, rfl⟩
  go_wp2_with fail
  with_reducible refine (one_at S _ [⟨#[97, 103, 101]⟩, ⟨#[99, 105, 116, 121]⟩, ⟨#[110, 101, 119, 115]⟩, ⟨#[115, 105, 110, 99, 101, 45, 100, 97, 121]⟩] 4 _ _ _ _ s1 (by omega) rfl (by omega) (by omega) (by simp) (by simp)).mono ?_
  rintro e w3 ⟨name, hnm, rfl, k3, s3⟩
  have hname : name.size ≤ 1000 := mem_size hnm (by decide)
  have HM3 := Lib.hid (HM0.out.draw k3 s3)
  clear HM0 k3 s1 hnm
  go_wp2_with fail
  with_reducible refine (condEvents_any _).mono ?_
  rintro e w4 ⟨rfl, rfl⟩
  go_wp2_with fail
  with_reducible refine (one_at S _ [⟨#[98, 117, 121]⟩, ⟨#[111, 112, 101, 110]⟩, ⟨#[118, 105, 115, 105, 116]⟩] 3 _ _ _ _ s3 (by omega) rfl (by omega) (by omega) (by simp) (by simp)).mono ?_
  rintro e w5 ⟨event, hev, rfl, k5, s5⟩
  have hevent : event.size ≤ 1000 := mem_size hev (by decide)
  have HM5 := Lib.hid (HM3.out.draw k5 s5)
  clear HM3 k5 s3 hev
  go_wp2_with fail
  with_reducible refine (pick_at S _ [0, 0, 1, 30, 60, 1440, 2880] 7 _ _ _ _ s5 (by omega) rfl (by omega) (by omega) (by simp) (by simp)).mono ?_
  rintro e w6 ⟨within, hwi, rfl, k6, s6⟩
  have hwithin : 0 ≤ within ∧ within ≤ 2880 := by
    simp only [List.mem_cons, List.mem_nil_iff, or_false] at hwi
    omega
  have HM6 := Lib.hid (HM5.out.draw k6 s6)
  clear HM5 k6 s5 hwi
  go_wp2_with fail
  with_reducible refine (next_any S _ _ _ s6 (by omega) (by omega)).mono ?_
  rintro e w7 ⟨r, ⟨hr0, hr1, -⟩, rfl, k7, s7⟩
  have hr2 := hr1 (by omega)
  have HM7 := Lib.hid (HM6.out.draw k7 s7)
  have HP7 := Lib.hid (Pt.nil q0 w7)
  clear HM6 k7 s6 hr1
  have hwi1 := hwithin.1
  have hwi2 := hwithin.2
  clear hwithin
  have hr : r = 0 ∨ r = 1 ∨ r = 2 ∨ r = 3 ∨ r = 4 ∨ r = 5 ∨ r = 6 ∨ r = 7 ∨ r = 8 ∨ r = 9 := by omega
  clear hr0 hr2
  rcases hr with rfl | rfl | rfl | rfl | rfl | rfl | rfl | rfl | rfl | rfl
  · go_wp2_with fail
    with_reducible refine (pick_at S _ [1, 2] 2 _ _ _ _ s7 (by omega) rfl (by omega) (by omega) (by simp) (by simp)).mono ?_
    rintro e w8 ⟨kind, hm, rfl, kk, s8⟩
    have hkind : 1 ≤ kind ∧ kind ≤ 2 := by
      simp only [List.mem_cons, List.mem_nil_iff, or_false] at hm
      omega
    have HM8 := Lib.hid (HM7.out.draw kk s8)
    have HP8 := Lib.hid (HP7.out.kept kk (Nat.le_of_lt HM8.out.sg))
    clear hm kk HM7 HP7 s7
    have hkind1 := hkind.1
    have hkind2 := hkind.2
    clear hkind
    go_wp2_with (refine wpList_store_oc _ rfl _ _ _ rfl q0 _ [.int .i64 kind, .string ⟨#[]⟩, .string ⟨#[]⟩, .string ⟨#[]⟩, .slice none 0 0, .slice none 0 0, .int .i64 0, .int .i64 0, .slice none 0 0] _ rfl rfl HM8.out.ob sizeCond rfl rfl ?_)
    intro wz oz kz
    have HMz := Lib.hid (HM8.out.write oz kz)
    have HPz := Lib.hid (HP8.out.kept kz (Nat.le_refl _))
    have r0 := oz.cell 0 _ rfl
    have r1 := oz.cell 1 _ rfl
    have r2 := oz.cell 2 _ rfl
    have r3 := oz.cell 3 _ rfl
    have r4 := oz.cell 4 _ rfl
    have r5 := oz.cell 5 _ rfl
    have r6 := oz.cell 6 _ rfl
    have r7 := oz.cell 7 _ rfl
    have r8 := oz.cell 8 _ rfl
    clear oz kz HM8 HP8
    go_wp2_with fail
    refine bodyPost_ret (v := .agg #[.int .i64 kind, .string ⟨#[]⟩, .string ⟨#[]⟩, .string ⟨#[]⟩, .slice none 0 0, .slice none 0 0, .int .i64 0, .int .i64 0, .slice none 0 0]) (by simp [results, Tryz.results67, go_sem, r0, r1, r2, r3, r4, r5, r6, r7, r8]) rfl ?_
    exact leafC (K := K + 40) (M := 1) (n := ⟨kind, ⟨#[]⟩, ⟨#[]⟩, ⟨#[]⟩, none, 0, [], none, 0, [], 0, 0, none, 0⟩) HPz.out (nd_ok (by omega) (by decide) (by decide) (by decide) ⟨Nat.le_refl _, Nat.zero_le _, Nat.zero_le _⟩ ⟨Nat.le_refl _, Nat.zero_le _, Nat.zero_le _⟩ (by omega) (by omega) (by simp) (by simp)) rfl rfl HMz.out.lo HMz.out.gr (strm_mono HMz.out.st (by omega)) (Nat.le_refl _) (by first | (simp; done) | (simp only; omega)) (by first | (simp; done) | (simp only; omega))
  · go_wp2_with (refine wpList_store_oc _ rfl _ _ _ rfl q0 _ [.int .i64 6, .string name, .string ⟨#[]⟩, .string ⟨#[]⟩, .slice none 0 0, .slice none 0 0, .int .i64 0, .int .i64 0, .slice none 0 0] _ rfl rfl HM7.out.ob sizeCond rfl rfl ?_)
    intro wz oz kz
    have HMz := Lib.hid (HM7.out.write oz kz)
    have HPz := Lib.hid (HP7.out.kept kz (Nat.le_refl _))
    have r0 := oz.cell 0 _ rfl
    have r1 := oz.cell 1 _ rfl
    have r2 := oz.cell 2 _ rfl
    have r3 := oz.cell 3 _ rfl
    have r4 := oz.cell 4 _ rfl
    have r5 := oz.cell 5 _ rfl
    have r6 := oz.cell 6 _ rfl
    have r7 := oz.cell 7 _ rfl
    have r8 := oz.cell 8 _ rfl
    clear oz kz HM7 HP7
    go_wp2_with fail
    refine bodyPost_ret (v := .agg #[.int .i64 6, .string name, .string ⟨#[]⟩, .string ⟨#[]⟩, .slice none 0 0, .slice none 0 0, .int .i64 0, .int .i64 0, .slice none 0 0]) (by simp [results, Tryz.results67, go_sem, r0, r1, r2, r3, r4, r5, r6, r7, r8]) rfl ?_
    exact leafC (K := K + 40) (M := 1) (n := ⟨6, name, ⟨#[]⟩, ⟨#[]⟩, none, 0, [], none, 0, [], 0, 0, none, 0⟩) HPz.out (nd_ok (by omega) hname (by decide) (by decide) ⟨Nat.le_refl _, Nat.zero_le _, Nat.zero_le _⟩ ⟨Nat.le_refl _, Nat.zero_le _, Nat.zero_le _⟩ (by omega) (by omega) (by simp) (by simp)) rfl rfl HMz.out.lo HMz.out.gr (strm_mono HMz.out.st (by omega)) (Nat.le_refl _) (by first | (simp; done) | (simp only; omega)) (by first | (simp; done) | (simp only; omega))
  · go_wp2_with fail
    have HT8 := Lib.hid (show TW w S q0 w7.heap.size name (.slice none 0 0) [] (K + 1 + 1 + 1 + 1) (w7.alloc (.cells #[.int .i64 8, .string name, .string ⟨#[]⟩, .string ⟨#[]⟩, .slice none 0 0, .slice none 0 0, .int .i64 0, .int .i64 0, .slice none 0 0] 30)) from ⟨HM7.out.alloc _, OB.new w7 [.int .i64 8, .string name, .string ⟨#[]⟩, .string ⟨#[]⟩, .slice none 0 0, .slice none 0 0, .int .i64 0, .int .i64 0, .slice none 0 0] 30, World.ownsRow_nil _ _ _ _, HM7.out.ob.lt⟩)
    clear HM7 HP7 s7
    generalize w7.alloc (.cells _ 30) = w8 at *
    generalize w7.heap.size = q at *
    have s8 := HT8.out.mkk.st
    with_reducible refine (range_any S _ 1 3 _ s8 (by omega) (by omega) (by omega) (by omega)).mono ?_
    rintro e w9 ⟨m', ⟨hm0, hm1⟩, rfl, kk, s9⟩
    obtain ⟨m, rfl⟩ := Int.eq_ofNat_of_zero_le (show 0 ≤ m' by omega)
    have hm3 : m ≤ 3 := by omega
    have hm1' : 1 ≤ m := by omega
    have HT9 := Lib.hid (HT8.out.draw kk s9)
    clear kk s8 HT8 hm0 hm1 s9
    go_wp2_with fail
    go_loopw [34] (fun i wr => ∃ (k : Nat) (cur : Value) (l : List Vl), k ≤ m ∧ i = .int .i64 k ∧ l.length = k ∧ Hid (∀ x ∈ l, x.ok) ∧ TW w S q0 q name cur l (K + 1 + 1 + 1 + 1 + 1 + 2 * k) wr) (fun i _ => m - (intOf i).toNat)
    case atStart => exact ⟨0, _, [], Nat.zero_le _, rfl, rfl, Lib.hid (by simp), HT9.out⟩
    case round =>
      obtain ⟨k, cur, l, hk, rfl, hl, HOK, hT⟩ := hrel
      have HT := Lib.hid hT
      have hll := Lib.hid hl
      clear hT HT9 hl
      by_cases hlt : k < m
      · have hnl : l.length ≤ 3 := by have := hll.out; omega
        go_upto_region 12 with (fail)
        refine wp_region_any (by kernel_rfl) ?_
        change wpAny _ _ _ _ _ _ _ (World.drew _)
        have HTd := Lib.hid HT.out.drew
        clear HT
        generalize World.drew _ = wd at *
        refine wpAny_take (i := 0) (oi := ⟨some 36, _, _, _, _, _⟩) (v := (.pointer (some ⟨q, 4, none⟩))) rfl (by kernel_rfl) (by kernel_rfl) (by kernel_rfl) (fun _ _ _ h => h) (Or.inl ⟨by rfl, fun w => by go_simp⟩) ?_
        refine wpAny_take (i := 2) (oi := ⟨some 38, _, _, _, _, _⟩) (v := S.p) rfl (by kernel_rfl) (by kernel_rfl) (by kernel_rfl) (fun _ _ _ h => h) (Or.inl ⟨by rfl, fun w => by go_simp⟩) ?_
        refine wpAny_take (i := 3) (oi := ⟨some 39, _, _, _, _, _⟩) (v := .string name) rfl (by kernel_rfl) (by kernel_rfl) (by kernel_rfl) (fun _ _ _ h => h) (Or.inl ⟨by rfl, fun w => by go_simp⟩) ?_
        refine wpAny_mask (n := 3) (m := 6) #[true, false, true, true, false, false, false, false, false] [1, 4, 5] (fun i => if i = 5 then [4] else []) [37, 40, 41] (fun d => if d = 37 then u37 else if d = 40 then u40 else u41) (JV w S q0 q name cur l (K + 1 + 1 + 1 + 1 + 1 + 2 * k) 37 40 41) rfl (by decide) (by kernel_rfl) (by kernel_rfl) ?stp ?hsp ?hendp
        case stp => exact ⟨HTd.out, fun e => (by cases e), fun e => (by cases e), fun e => (by cases e)⟩
        case hsp =>
          intro i hi b u wx hbi hD hJ
          simp only [List.mem_cons, List.mem_nil_iff, or_false] at hi
          have HJ := Lib.hid hJ
          rcases hi with rfl | rfl | rfl
          · refine wpOp_calm (o := ⟨some 37, ?ap1, ?ap2, ?ap3, ?ap4, ?ap5⟩) ?api ?apg ?_
            case api => exact rfl
            case apg => exact rfl
            intro K' Q' hK'
            have HK := Lib.hid hK'
            clear hK'
            have y1 := hJ.base.bx.cell 4 _ rfl
            have yl := hJ.base.bx.lt
            clear hJ
            simp only [setAll, List.foldl]
            go_simp
            exact HK.out _ _ ⟨upd u 37 cur, by kernel_rfl, ⟨HJ.out.base, fun _ => rfl, fun e => HJ.out.p4 e, fun e => HJ.out.p5 e⟩⟩
          · refine wpOp_calm (o := ⟨some 40, ?cp1, ?cp2, ?cp3, ?cp4, ?cp5⟩) ?cpi ?cpg ?_
            case cpi => exact rfl
            case cpg => exact rfl
            intro K' Q' hK'
            have HK := Lib.hid hK'
            clear hK'
            have C := fieldValue_any S (K + 1 + 1 + 1 + 1 + 1 + 2 * k) name wx (strm_mono hJ.base.mkk.st (by rw [hbi]; exact Nat.le_refl _)) (by omega)
            have HC := Lib.hid C
            clear hJ C
            simp only [setAll, List.foldl]
            go_simp
            refine HC.out.mono ?_
            rintro e w' ⟨x, hx, rfl, k', st⟩
            exact HK.out _ _ ⟨upd u 40 (.agg #[.int .i64 x.kind, .string x.text, .int .i64 x.num]), by kernel_rfl, ⟨HJ.out.base.draw k' st, fun e => HJ.out.p1 e, fun _ => ⟨x, rfl, hx⟩, fun e => by
              obtain ⟨h, x, h1, h2, h3, h4⟩ := HJ.out.p5 e
              exact ⟨h, x, h1, h2, h3, h4.grown k' (fun e => h3 (Option.some.inj e).symm)⟩⟩⟩
          · refine wpOp_calm (o := ⟨some 41, ?dp1, ?dp2, ?dp3, ?dp4, ?dp5⟩) ?dpi ?dpg ?_
            case dpi => exact rfl
            case dpg => exact rfl
            intro K' Q' hK'
            have HK := Lib.hid hK'
            clear hK'
            obtain ⟨x, hz, hzm⟩ := HJ.out.p4 (hD 4 (by simp))
            clear hJ
            simp only [setAll, List.foldl, hz]
            go_simp
            exact HK.out _ _ ⟨upd (upd u 40 (.agg #[.int .i64 x.kind, .string x.text, .int .i64 x.num])) 41 (.slice (some ⟨wx.heap.size, 0, none⟩) 1 1), by kernel_rfl, by
              rw [upd_same hz]
              exact ⟨HJ.out.base.alloc _, fun e => HJ.out.p1 e, fun e => HJ.out.p4 e, fun _ => ⟨_, x, rfl, hzm, by have := strm_lt HJ.out.base.mkk.st; omega, OB.new wx [.int .i64 x.kind, .string x.text, .int .i64 x.num] 72⟩⟩⟩
        case hendp =>
          intro b u wx hb hJ
          obtain ⟨h, x, h5, hxo, hne, hc5⟩ := hJ.p5 (hb 5 (by simp))
          have h1 := hJ.p1 (hb 1 (by simp))
          have HW := Lib.hid (hJ.base.mono (show (K + 1 + 1 + 1 + 1 + 1 + 2 * k) + 2 * (b 4).toNat ≤ (K + 1 + 1 + 1 + 1 + 1 + 2 * (k + 1)) by have := Bool.toNat_le (b 4); omega))
          have hown := HW.out.own
          have hsz := HW.out.bx.lt
          obtain ⟨u40', hu40⟩ : ∃ z, u 40 = z := ⟨_, rfl⟩
          simp only [setAll, List.foldl, h1, h5, hu40]
          clear h1 h5 hb hJ hu40
          refine wpAny_ready (rs := [6]) (by kernel_rfl) (by simp) ?_
          refine AllReady.cons rfl (fun K6 hK6 => ?_) AllReady.nil
          refine step_append_lies (o := ⟨some 42, _, _, _, _, _⟩) _ (by rfl) (.tmp 37) (.tmp 41) 26 (by rfl) (q + 1) 72 i0 _ 3 32 Tryz.underlying26 hi hz0 hz1 hz2 rfl (by decide) cur l.length _ (by kernel_rfl) hown ⟨h, 0, none⟩ 1 1 [.int .i64 x.kind, .string x.text, .int .i64 x.num] (by kernel_rfl) (by rfl) ?cnp (by simp [Value.oneCell']) (by decide) (by unfold maxLen; omega) (by omega) hsz _ rfl ?_
          case cnp =>
            intro j y hy
            have := hc5.cell j y hy
            rw [Addr.add]
            split
            · rename_i h0; subst h0; exact this
            · simpa using this
          intro g cap wy own hgrow hat hlt2
          have HWy := Lib.hid (HW.out.app (x := x) hgrow own)
          have f1 := HWy.out.1
          have f2 := HWy.out.2.1
          have f3 := HWy.out.2.2.1
          refine hK6 _ _ ?_
          clear hK6 K6 own hgrow hat hown HW hc5
          refine wpAny_take (i := 7) (oi := ⟨some 43, _, _, _, _, _⟩) (v := (.pointer (some ⟨q, 4, none⟩))) rfl (by kernel_rfl) (by kernel_rfl) (by kernel_rfl) (fun _ _ _ h => h) (Or.inl ⟨by rfl, fun w => by go_simp⟩) ?_
          refine wpAny_ready (rs := [8]) (by kernel_rfl) (by simp) ?_
          refine AllReady.cons rfl (fun K8 hK8 => ?_) AllReady.nil
          go_simp
          refine hK8 _ _ ?_
          clear hK8 K8
          refine wpAny_done (by kernel_rfl) ?_ _
          have HS := Lib.hid HWy.out.2.2.2
          clear HWy f1 f2 f3
          go_wp2_with fail
          go_roundw
          case rel => exact ⟨k + 1, _, l ++ [x], by omega, by go_num, by simp [hll.out], Lib.hid (fun y hy => by
            rcases List.mem_append.1 hy with hy | hy
            · exact HOK.out y hy
            · obtain rfl := List.mem_singleton.1 hy
              exact hxo), HS.out⟩
          case measure => simp [intOf]; omega
      · obtain rfl : k = m := by omega
        have hkl := hll.out
        obtain ⟨a, c, rfl, hI, hc1, hc2⟩ := RAt.of_own HT.out.own (fun x _ => x.len)
        have hfar := Lib.hid (fun p off (e : a = some ⟨p, off, none⟩) => (HT.out.own.lt p (by rw [e]; rfl)).1)
        have hq0q := HT.out.lt
        have HPz := Lib.hid (show Pt q0 a l none [] wr from ⟨hI, RAt.nil _ _ _ _, fun g hg _ p off e => by have := hfar.out p off e; omega, fun g _ h => absurd h (by simp)⟩)
        have y0 := HT.out.bx.cell 0 _ rfl
        have y1 := HT.out.bx.cell 1 _ rfl
        have y2 := HT.out.bx.cell 2 _ rfl
        have y3 := HT.out.bx.cell 3 _ rfl
        have y4 := HT.out.bx.cell 4 _ rfl
        have y5 := HT.out.bx.cell 5 _ rfl
        have y6 := HT.out.bx.cell 6 _ rfl
        have y7 := HT.out.bx.cell 7 _ rfl
        have y8 := HT.out.bx.cell 8 _ rfl
        have yl := HT.out.bx.lt
        have HMz := Lib.hid HT.out.mkk
        rw [hkl] at y4
        clear HT hI hfar
        go_wp2_with (refine wpList_store_oc _ rfl _ _ _ rfl q0 _ [.int .i64 8, .string name, .string ⟨#[]⟩, .string ⟨#[]⟩, .slice a k c, .slice none 0 0, .int .i64 0, .int .i64 0, .slice none 0 0] _ rfl rfl HMz.out.ob sizeCond rfl rfl ?_)
        intro wz oz kz
        have HMy := Lib.hid (HMz.out.write oz kz)
        have HPy := Lib.hid (HPz.out.kept kz (Nat.le_refl _))
        have r0 := oz.cell 0 _ rfl
        have r1 := oz.cell 1 _ rfl
        have r2 := oz.cell 2 _ rfl
        have r3 := oz.cell 3 _ rfl
        have r4 := oz.cell 4 _ rfl
        have r5 := oz.cell 5 _ rfl
        have r6 := oz.cell 6 _ rfl
        have r7 := oz.cell 7 _ rfl
        have r8 := oz.cell 8 _ rfl
        clear oz kz HMz HPz y0 y1 y2 y3 y4 y5 y6 y7 y8 yl
        go_wp2_with fail
        refine bodyPost_ret (v := .agg #[.int .i64 8, .string name, .string ⟨#[]⟩, .string ⟨#[]⟩, .slice a k c, .slice none 0 0, .int .i64 0, .int .i64 0, .slice none 0 0]) (by simp [results, Tryz.results67, go_sem, r0, r1, r2, r3, r4, r5, r6, r7, r8]) rfl ?_
        have hlk := hll.out
        subst hlk
        exact leafC (K := K + 40) (M := 1) (n := ⟨8, name, ⟨#[]⟩, ⟨#[]⟩, a, c, l, none, 0, [], 0, 0, none, 0⟩) HPy.out (nd_ok (by omega) hname (by decide) (by decide) ⟨hc1, hc2, by omega⟩ ⟨Nat.le_refl _, Nat.zero_le _, Nat.zero_le _⟩ (by omega) (by omega) HOK.out (by simp)) rfl rfl HMy.out.lo HMy.out.gr (strm_mono HMy.out.st (by omega)) (Nat.le_refl _) (by first | (simp; done) | (simp only; omega)) (by first | (simp; done) | (simp only; omega))
  · go_wp2_with fail
    with_reducible refine (pick_at S _ [9, 10] 2 _ _ _ _ s7 (by omega) rfl (by omega) (by omega) (by simp) (by simp)).mono ?_
    rintro e w8 ⟨kind, hm, rfl, kk, s8⟩
    have hkind : 9 ≤ kind ∧ kind ≤ 10 := by
      simp only [List.mem_cons, List.mem_nil_iff, or_false] at hm
      omega
    have HM8 := Lib.hid (HM7.out.draw kk s8)
    have HP8 := Lib.hid (HP7.out.kept kk (Nat.le_of_lt HM8.out.sg))
    clear hm kk HM7 HP7 s7
    have hkind1 := hkind.1
    have hkind2 := hkind.2
    clear hkind
    go_wp2_with fail
    with_reducible refine (one_at S _ [⟨#[85]⟩, ⟨#[108]⟩, ⟨#[]⟩, ⟨#[85, 108, 109]⟩] 4 _ _ _ _ s8 (by omega) rfl (by omega) (by omega) (by simp) (by simp)).mono ?_
    rintro e w9 ⟨tx, hm, rfl, kk, s9⟩
    have htx : tx.size ≤ 10 := mem_size hm (by decide)
    have HM9 := Lib.hid (HM8.out.draw kk s9)
    have HP9 := Lib.hid (HP8.out.kept kk (Nat.le_of_lt HM9.out.sg))
    clear hm kk HM8 HP8 s8
    have HMa := Lib.hid (HM9.out.alloc (.cells #[.int .i64 1, .string tx, .int .i64 0] 72))
    have hq0l := HM9.out.ob.lt
    have HPa := Lib.hid (show Pt q0 (some ⟨w9.heap.size, 0, none⟩) [⟨1, tx, 0⟩] none [] (w9.alloc (.cells #[.int .i64 1, .string tx, .int .i64 0] 72)) from ⟨vals_one w9 ⟨1, tx, 0⟩, RAt.nil _ _ _ _, fun g hg _ p off e => by injection e with e; injection e with e1 e2; omega, fun g _ h => absurd h (by simp)⟩)
    clear HM9 HP9 hq0l
    go_wp2_with (refine wpList_store_oc _ rfl _ _ _ rfl q0 _ [.int .i64 kind, .string name, .string ⟨#[]⟩, .string ⟨#[]⟩, .slice (some ⟨w9.heap.size, 0, none⟩) 1 1, .slice none 0 0, .int .i64 0, .int .i64 0, .slice none 0 0] _ rfl rfl HMa.out.ob sizeCond rfl rfl ?_)
    intro wz oz kz
    have HMz := Lib.hid (HMa.out.write oz kz)
    have HPz := Lib.hid (HPa.out.kept kz (Nat.le_refl _))
    have r0 := oz.cell 0 _ rfl
    have r1 := oz.cell 1 _ rfl
    have r2 := oz.cell 2 _ rfl
    have r3 := oz.cell 3 _ rfl
    have r4 := oz.cell 4 _ rfl
    have r5 := oz.cell 5 _ rfl
    have r6 := oz.cell 6 _ rfl
    have r7 := oz.cell 7 _ rfl
    have r8 := oz.cell 8 _ rfl
    clear oz kz HMa HPa
    go_wp2_with fail
    refine bodyPost_ret (v := .agg #[.int .i64 kind, .string name, .string ⟨#[]⟩, .string ⟨#[]⟩, .slice (some ⟨w9.heap.size, 0, none⟩) 1 1, .slice none 0 0, .int .i64 0, .int .i64 0, .slice none 0 0]) (by simp [results, Tryz.results67, go_sem, r0, r1, r2, r3, r4, r5, r6, r7, r8]) rfl ?_
    exact leafC (K := K + 40) (M := 1) (n := ⟨kind, name, ⟨#[]⟩, ⟨#[]⟩, (some ⟨w9.heap.size, 0, none⟩), 1, [⟨1, tx, 0⟩], none, 0, [], 0, 0, none, 0⟩) HPz.out (nd_ok (by omega) hname (by decide) (by decide) ⟨Nat.le_refl _, le_maxLen (by decide), by simp⟩ ⟨Nat.le_refl _, Nat.zero_le _, Nat.zero_le _⟩ (by omega) (by omega) (fun v hv => by obtain rfl := List.mem_singleton.1 hv; exact ⟨by unfold i64B; simp only; omega, htx, by unfold i64B; simp only; omega⟩) (by simp)) rfl rfl HMz.out.lo HMz.out.gr (strm_mono HMz.out.st (by omega)) (Nat.le_refl _) (by first | (simp; done) | (simp only; omega)) (by first | (simp; done) | (simp only; omega))
  · go_wp2_with fail
    ((with_reducible refine (wheres_any S _ _ s7 (by omega)).mono ?_); rintro e w8 ⟨wa, wc, whs, ⟨hwl, hwok⟩, rfl, hR, hwc1, hwc2, hF, kk, s8⟩)
    have HM8 := Lib.hid (HM7.out.draw kk s8)
    have hq0l := HM7.out.ob.lt
    have HP8 := Lib.hid (show Pt q0 none [] wa whs w8 from ⟨RAt.nil _ _ _ _, hR, fun g _ h => absurd h (by simp), fun g hg => hF g (by omega)⟩)
    have HWO := Lib.hid hwok
    obtain ⟨nw, hnw⟩ : ∃ z, whs.length = z := ⟨_, rfl⟩
    have HNW := Lib.hid hnw
    rw [hnw] at hwl hwc1 ⊢
    clear hR hF kk hwok hnw hq0l HM7 HP7 s7
    go_wp2_with fail
    with_reducible refine (compareSign_any S _ _ s8 (by omega)).mono ?_
    rintro e w9 ⟨sg, hm, rfl, kk, s9⟩
    have hsg : sg.size ≤ 1000 := mem_size hm (by decide)
    have HM9 := Lib.hid (HM8.out.draw kk s9)
    have HP9 := Lib.hid (HP8.out.kept kk (Nat.le_of_lt HM9.out.sg))
    clear hm kk HM8 HP8 s8
    go_wp2_with fail
    with_reducible refine (pick_at S _ [0, 1, 2, 3, -1] 5 _ _ _ _ s9 (by omega) rfl (by omega) (by omega) (by simp) (by simp)).mono ?_
    rintro e w10 ⟨nm, hm, rfl, kk, s10⟩
    have hnm : -1 ≤ nm ∧ nm ≤ 3 := by
      simp only [List.mem_cons, List.mem_nil_iff, or_false] at hm
      omega
    have HMa := Lib.hid (HM9.out.draw kk s10)
    have HPa := Lib.hid (HP9.out.kept kk (Nat.le_of_lt HMa.out.sg))
    clear hm kk HM9 HP9 s9
    have hnm1 := hnm.1
    have hnm2 := hnm.2
    clear hnm
    go_wp2_with (refine wpList_store_oc _ rfl _ _ _ rfl q0 _ [.int .i64 11, .string event, .string ⟨#[]⟩, .string sg, .slice none 0 0, .slice wa nw wc, .int .i64 within, .int .i64 nm, .slice none 0 0] _ rfl rfl HMa.out.ob sizeCond rfl rfl ?_)
    intro wz oz kz
    have HMz := Lib.hid (HMa.out.write oz kz)
    have HPz := Lib.hid (HPa.out.kept kz (Nat.le_refl _))
    have r0 := oz.cell 0 _ rfl
    have r1 := oz.cell 1 _ rfl
    have r2 := oz.cell 2 _ rfl
    have r3 := oz.cell 3 _ rfl
    have r4 := oz.cell 4 _ rfl
    have r5 := oz.cell 5 _ rfl
    have r6 := oz.cell 6 _ rfl
    have r7 := oz.cell 7 _ rfl
    have r8 := oz.cell 8 _ rfl
    clear oz kz HMa HPa
    go_wp2_with fail
    refine bodyPost_ret (v := .agg #[.int .i64 11, .string event, .string ⟨#[]⟩, .string sg, .slice none 0 0, .slice wa nw wc, .int .i64 within, .int .i64 nm, .slice none 0 0]) (by simp [results, Tryz.results67, go_sem, r0, r1, r2, r3, r4, r5, r6, r7, r8]) rfl ?_
    have hnw2 := HNW.out
    subst hnw2
    exact leafC (K := K + 40) (M := 1) (n := ⟨11, event, ⟨#[]⟩, sg, none, 0, [], wa, wc, whs, within, nm, none, 0⟩) HPz.out (nd_ok (by omega) hevent (by decide) hsg ⟨Nat.le_refl _, Nat.zero_le _, Nat.zero_le _⟩ ⟨by rw [HNW.out]; exact hwc1, hwc2, by rw [HNW.out]; omega⟩ (by omega) (by omega) (by simp) (HWO.out)) rfl rfl HMz.out.lo HMz.out.gr (strm_mono HMz.out.st (by omega)) (Nat.le_refl _) (by first | (simp; done) | (simp only; omega)) (by first | (simp; done) | (simp only; omega))
  · go_wp2_with fail
    ((with_reducible refine (wheres_any S _ _ s7 (by omega)).mono ?_); rintro e w8 ⟨wa, wc, whs, ⟨hwl, hwok⟩, rfl, hR, hwc1, hwc2, hF, kk, s8⟩)
    have HM8 := Lib.hid (HM7.out.draw kk s8)
    have hq0l := HM7.out.ob.lt
    have HP8 := Lib.hid (show Pt q0 none [] wa whs w8 from ⟨RAt.nil _ _ _ _, hR, fun g _ h => absurd h (by simp), fun g hg => hF g (by omega)⟩)
    have HWO := Lib.hid hwok
    obtain ⟨nw, hnw⟩ : ∃ z, whs.length = z := ⟨_, rfl⟩
    have HNW := Lib.hid hnw
    rw [hnw] at hwl hwc1 ⊢
    clear hR hF kk hwok hnw hq0l HM7 HP7 s7
    go_wp2_with fail
    with_reducible refine (compareSign_any S _ _ s8 (by omega)).mono ?_
    rintro e w9 ⟨sg, hm, rfl, kk, s9⟩
    have hsg : sg.size ≤ 1000 := mem_size hm (by decide)
    have HM9 := Lib.hid (HM8.out.draw kk s9)
    have HP9 := Lib.hid (HP8.out.kept kk (Nat.le_of_lt HM9.out.sg))
    clear hm kk HM8 HP8 s8
    go_wp2_with fail
    with_reducible refine (pick_at S _ [0, 1, 2, 3, -1] 5 _ _ _ _ s9 (by omega) rfl (by omega) (by omega) (by simp) (by simp)).mono ?_
    rintro e w10 ⟨nm, hm, rfl, kk, s10⟩
    have hnm : -1 ≤ nm ∧ nm ≤ 3 := by
      simp only [List.mem_cons, List.mem_nil_iff, or_false] at hm
      omega
    have HMa := Lib.hid (HM9.out.draw kk s10)
    have HPa := Lib.hid (HP9.out.kept kk (Nat.le_of_lt HMa.out.sg))
    clear hm kk HM9 HP9 s9
    have hnm1 := hnm.1
    have hnm2 := hnm.2
    clear hnm
    go_wp2_with (refine wpList_store_oc _ rfl _ _ _ rfl q0 _ [.int .i64 11, .string event, .string ⟨#[]⟩, .string sg, .slice none 0 0, .slice wa nw wc, .int .i64 within, .int .i64 nm, .slice none 0 0] _ rfl rfl HMa.out.ob sizeCond rfl rfl ?_)
    intro wz oz kz
    have HMz := Lib.hid (HMa.out.write oz kz)
    have HPz := Lib.hid (HPa.out.kept kz (Nat.le_refl _))
    have r0 := oz.cell 0 _ rfl
    have r1 := oz.cell 1 _ rfl
    have r2 := oz.cell 2 _ rfl
    have r3 := oz.cell 3 _ rfl
    have r4 := oz.cell 4 _ rfl
    have r5 := oz.cell 5 _ rfl
    have r6 := oz.cell 6 _ rfl
    have r7 := oz.cell 7 _ rfl
    have r8 := oz.cell 8 _ rfl
    clear oz kz HMa HPa
    go_wp2_with fail
    refine bodyPost_ret (v := .agg #[.int .i64 11, .string event, .string ⟨#[]⟩, .string sg, .slice none 0 0, .slice wa nw wc, .int .i64 within, .int .i64 nm, .slice none 0 0]) (by simp [results, Tryz.results67, go_sem, r0, r1, r2, r3, r4, r5, r6, r7, r8]) rfl ?_
    have hnw2 := HNW.out
    subst hnw2
    exact leafC (K := K + 40) (M := 1) (n := ⟨11, event, ⟨#[]⟩, sg, none, 0, [], wa, wc, whs, within, nm, none, 0⟩) HPz.out (nd_ok (by omega) hevent (by decide) hsg ⟨Nat.le_refl _, Nat.zero_le _, Nat.zero_le _⟩ ⟨by rw [HNW.out]; exact hwc1, hwc2, by rw [HNW.out]; omega⟩ (by omega) (by omega) (by simp) (HWO.out)) rfl rfl HMz.out.lo HMz.out.gr (strm_mono HMz.out.st (by omega)) (Nat.le_refl _) (by first | (simp; done) | (simp only; omega)) (by first | (simp; done) | (simp only; omega))
  · go_wp2_with fail
    with_reducible refine (one_at S _ [⟨#[99, 101, 110, 116, 115]⟩, ⟨#[99, 101, 110, 116, 115]⟩, ⟨#[105, 116, 101, 109]⟩] 3 _ _ _ _ s7 (by omega) rfl (by omega) (by omega) (by simp) (by simp)).mono ?_
    rintro e w8 ⟨fd, hm, rfl, kk, s8⟩
    have hfd : fd.size ≤ 1000 := mem_size hm (by decide)
    have HM8 := Lib.hid (HM7.out.draw kk s8)
    have HP8 := Lib.hid (HP7.out.kept kk (Nat.le_of_lt HM8.out.sg))
    clear hm kk HM7 HP7 s7
    go_wp2_with fail
    ((with_reducible refine (wheres_any S _ _ s8 (by omega)).mono ?_); rintro e w9 ⟨wa, wc, whs, ⟨hwl, hwok⟩, rfl, hR, hwc1, hwc2, hF, kk, s9⟩)
    have HM9 := Lib.hid (HM8.out.draw kk s9)
    have hq0l := HM8.out.ob.lt
    have HP9 := Lib.hid (show Pt q0 none [] wa whs w9 from ⟨RAt.nil _ _ _ _, hR, fun g _ h => absurd h (by simp), fun g hg => hF g (by omega)⟩)
    have HWO := Lib.hid hwok
    obtain ⟨nw, hnw⟩ : ∃ z, whs.length = z := ⟨_, rfl⟩
    have HNW := Lib.hid hnw
    rw [hnw] at hwl hwc1 ⊢
    clear hR hF kk hwok hnw hq0l HM8 HP8 s8
    go_wp2_with fail
    with_reducible refine (compareSign_any S _ _ s9 (by omega)).mono ?_
    rintro e w10 ⟨sg, hm, rfl, kk, s10⟩
    have hsg : sg.size ≤ 1000 := mem_size hm (by decide)
    have HMa := Lib.hid (HM9.out.draw kk s10)
    have HPa := Lib.hid (HP9.out.kept kk (Nat.le_of_lt HMa.out.sg))
    clear hm kk HM9 HP9 s9
    go_wp2_with fail
    with_reducible refine (pick_at S _ [0, 5, 100, 105, -5] 5 _ _ _ _ s10 (by omega) rfl (by omega) (by omega) (by simp) (by simp)).mono ?_
    rintro e w11 ⟨nm, hm, rfl, kk, s11⟩
    have hnm : -5 ≤ nm ∧ nm ≤ 105 := by
      simp only [List.mem_cons, List.mem_nil_iff, or_false] at hm
      omega
    have HMb := Lib.hid (HMa.out.draw kk s11)
    have HPb := Lib.hid (HPa.out.kept kk (Nat.le_of_lt HMb.out.sg))
    clear hm kk HMa HPa s10
    have hnm1 := hnm.1
    have hnm2 := hnm.2
    clear hnm
    go_wp2_with (refine wpList_store_oc _ rfl _ _ _ rfl q0 _ [.int .i64 12, .string event, .string fd, .string sg, .slice none 0 0, .slice wa nw wc, .int .i64 within, .int .i64 nm, .slice none 0 0] _ rfl rfl HMb.out.ob sizeCond rfl rfl ?_)
    intro wz oz kz
    have HMz := Lib.hid (HMb.out.write oz kz)
    have HPz := Lib.hid (HPb.out.kept kz (Nat.le_refl _))
    have r0 := oz.cell 0 _ rfl
    have r1 := oz.cell 1 _ rfl
    have r2 := oz.cell 2 _ rfl
    have r3 := oz.cell 3 _ rfl
    have r4 := oz.cell 4 _ rfl
    have r5 := oz.cell 5 _ rfl
    have r6 := oz.cell 6 _ rfl
    have r7 := oz.cell 7 _ rfl
    have r8 := oz.cell 8 _ rfl
    clear oz kz HMb HPb
    go_wp2_with fail
    refine bodyPost_ret (v := .agg #[.int .i64 12, .string event, .string fd, .string sg, .slice none 0 0, .slice wa nw wc, .int .i64 within, .int .i64 nm, .slice none 0 0]) (by simp [results, Tryz.results67, go_sem, r0, r1, r2, r3, r4, r5, r6, r7, r8]) rfl ?_
    have hnw2 := HNW.out
    subst hnw2
    exact leafC (K := K + 40) (M := 1) (n := ⟨12, event, fd, sg, none, 0, [], wa, wc, whs, within, nm, none, 0⟩) HPz.out (nd_ok (by omega) hevent hfd hsg ⟨Nat.le_refl _, Nat.zero_le _, Nat.zero_le _⟩ ⟨by rw [HNW.out]; exact hwc1, hwc2, by rw [HNW.out]; omega⟩ (by omega) (by omega) (by simp) (HWO.out)) rfl rfl HMz.out.lo HMz.out.gr (strm_mono HMz.out.st (by omega)) (Nat.le_refl _) (by first | (simp; done) | (simp only; omega)) (by first | (simp; done) | (simp only; omega))
  · go_wp2_with fail
    ((with_reducible refine (wheres_any S _ _ s7 (by omega)).mono ?_); rintro e w8 ⟨wa, wc, whs, ⟨hwl, hwok⟩, rfl, hR, hwc1, hwc2, hF, kk, s8⟩)
    have HM8 := Lib.hid (HM7.out.draw kk s8)
    have hq0l := HM7.out.ob.lt
    have HP8 := Lib.hid (show Pt q0 none [] wa whs w8 from ⟨RAt.nil _ _ _ _, hR, fun g _ h => absurd h (by simp), fun g hg => hF g (by omega)⟩)
    have HWO := Lib.hid hwok
    obtain ⟨nw, hnw⟩ : ∃ z, whs.length = z := ⟨_, rfl⟩
    have HNW := Lib.hid hnw
    rw [hnw] at hwl hwc1 ⊢
    clear hR hF kk hwok hnw hq0l HM7 HP7 s7
    go_wp2_with fail
    with_reducible refine (compareSign_any S _ _ s8 (by omega)).mono ?_
    rintro e w9 ⟨sg, hm, rfl, kk, s9⟩
    have hsg : sg.size ≤ 1000 := mem_size hm (by decide)
    have HM9 := Lib.hid (HM8.out.draw kk s9)
    have HP9 := Lib.hid (HP8.out.kept kk (Nat.le_of_lt HM9.out.sg))
    clear hm kk HM8 HP8 s8
    go_wp2_with fail
    with_reducible refine (pick_at S _ [0, 1, 30, 60, 1440] 5 _ _ _ _ s9 (by omega) rfl (by omega) (by omega) (by simp) (by simp)).mono ?_
    rintro e w10 ⟨nm, hm, rfl, kk, s10⟩
    have hnm : 0 ≤ nm ∧ nm ≤ 1440 := by
      simp only [List.mem_cons, List.mem_nil_iff, or_false] at hm
      omega
    have HMa := Lib.hid (HM9.out.draw kk s10)
    have HPa := Lib.hid (HP9.out.kept kk (Nat.le_of_lt HMa.out.sg))
    clear hm kk HM9 HP9 s9
    have hnm1 := hnm.1
    have hnm2 := hnm.2
    clear hnm
    go_wp2_with (refine wpList_store_oc _ rfl _ _ _ rfl q0 _ [.int .i64 13, .string event, .string ⟨#[]⟩, .string sg, .slice none 0 0, .slice wa nw wc, .int .i64 0, .int .i64 nm, .slice none 0 0] _ rfl rfl HMa.out.ob sizeCond rfl rfl ?_)
    intro wz oz kz
    have HMz := Lib.hid (HMa.out.write oz kz)
    have HPz := Lib.hid (HPa.out.kept kz (Nat.le_refl _))
    have r0 := oz.cell 0 _ rfl
    have r1 := oz.cell 1 _ rfl
    have r2 := oz.cell 2 _ rfl
    have r3 := oz.cell 3 _ rfl
    have r4 := oz.cell 4 _ rfl
    have r5 := oz.cell 5 _ rfl
    have r6 := oz.cell 6 _ rfl
    have r7 := oz.cell 7 _ rfl
    have r8 := oz.cell 8 _ rfl
    clear oz kz HMa HPa
    go_wp2_with fail
    refine bodyPost_ret (v := .agg #[.int .i64 13, .string event, .string ⟨#[]⟩, .string sg, .slice none 0 0, .slice wa nw wc, .int .i64 0, .int .i64 nm, .slice none 0 0]) (by simp [results, Tryz.results67, go_sem, r0, r1, r2, r3, r4, r5, r6, r7, r8]) rfl ?_
    have hnw2 := HNW.out
    subst hnw2
    exact leafC (K := K + 40) (M := 1) (n := ⟨13, event, ⟨#[]⟩, sg, none, 0, [], wa, wc, whs, 0, nm, none, 0⟩) HPz.out (nd_ok (by omega) hevent (by decide) hsg ⟨Nat.le_refl _, Nat.zero_le _, Nat.zero_le _⟩ ⟨by rw [HNW.out]; exact hwc1, hwc2, by rw [HNW.out]; omega⟩ (by omega) (by omega) (by simp) (HWO.out)) rfl rfl HMz.out.lo HMz.out.gr (strm_mono HMz.out.st (by omega)) (Nat.le_refl _) (by first | (simp; done) | (simp only; omega)) (by first | (simp; done) | (simp only; omega))
  · go_wp2_with fail
    with_reducible refine (condEvents_any _).mono ?_
    rintro e w8 ⟨rfl, rfl⟩
    go_wp2_with fail
    with_reducible refine (one_at S _ [⟨#[98, 117, 121]⟩, ⟨#[111, 112, 101, 110]⟩, ⟨#[118, 105, 115, 105, 116]⟩] 3 _ _ _ _ s7 (by omega) rfl (by omega) (by omega) (by simp) (by simp)).mono ?_
    rintro e w9 ⟨fd, hm, rfl, kk, s9⟩
    have hfd : fd.size ≤ 1000 := mem_size hm (by decide)
    have HM9 := Lib.hid (HM7.out.draw kk s9)
    have HP9 := Lib.hid (HP7.out.kept kk (Nat.le_of_lt HM9.out.sg))
    clear hm kk HM7 HP7 s7
    go_wp2_with (refine wpList_store_oc _ rfl _ _ _ rfl q0 _ [.int .i64 14, .string event, .string fd, .string ⟨#[]⟩, .slice none 0 0, .slice none 0 0, .int .i64 within, .int .i64 0, .slice none 0 0] _ rfl rfl HM9.out.ob sizeCond rfl rfl ?_)
    intro wz oz kz
    have HMz := Lib.hid (HM9.out.write oz kz)
    have HPz := Lib.hid (HP9.out.kept kz (Nat.le_refl _))
    have r0 := oz.cell 0 _ rfl
    have r1 := oz.cell 1 _ rfl
    have r2 := oz.cell 2 _ rfl
    have r3 := oz.cell 3 _ rfl
    have r4 := oz.cell 4 _ rfl
    have r5 := oz.cell 5 _ rfl
    have r6 := oz.cell 6 _ rfl
    have r7 := oz.cell 7 _ rfl
    have r8 := oz.cell 8 _ rfl
    clear oz kz HM9 HP9
    go_wp2_with fail
    refine bodyPost_ret (v := .agg #[.int .i64 14, .string event, .string fd, .string ⟨#[]⟩, .slice none 0 0, .slice none 0 0, .int .i64 within, .int .i64 0, .slice none 0 0]) (by simp [results, Tryz.results67, go_sem, r0, r1, r2, r3, r4, r5, r6, r7, r8]) rfl ?_
    exact leafC (K := K + 40) (M := 1) (n := ⟨14, event, fd, ⟨#[]⟩, none, 0, [], none, 0, [], within, 0, none, 0⟩) HPz.out (nd_ok (by omega) hevent hfd (by decide) ⟨Nat.le_refl _, Nat.zero_le _, Nat.zero_le _⟩ ⟨Nat.le_refl _, Nat.zero_le _, Nat.zero_le _⟩ (by omega) (by omega) (by simp) (by simp)) rfl rfl HMz.out.lo HMz.out.gr (strm_mono HMz.out.st (by omega)) (Nat.le_refl _) (by first | (simp; done) | (simp only; omega)) (by first | (simp; done) | (simp only; omega))
  · go_wp2_with fail
    with_reducible refine (compareSign_any S _ _ s7 (by omega)).mono ?_
    rintro e w8 ⟨sg, hm, rfl, kk, s8⟩
    have hsg : sg.size ≤ 1000 := mem_size hm (by decide)
    have HM8 := Lib.hid (HM7.out.draw kk s8)
    have HP8 := Lib.hid (HP7.out.kept kk (Nat.le_of_lt HM8.out.sg))
    clear hm kk HM7 HP7 s7
    go_wp2_with fail
    ((with_reducible refine (fieldValue_any S _ _ _ s8 (by omega)).mono ?_); rintro e w9 ⟨⟨vk, vt, vn⟩, hvo, rfl, kk, s9⟩)
    have HVO := Lib.hid hvo
    have HM9 := Lib.hid (HM8.out.draw kk s9)
    clear kk HM8 HP8 s8 hvo
    simp only [Vl.cells]
    have HMa := Lib.hid (HM9.out.alloc (.cells #[.int .i64 vk, .string vt, .int .i64 vn] 72))
    have hq0l := HM9.out.ob.lt
    have HPa := Lib.hid (show Pt q0 (some ⟨w9.heap.size, 0, none⟩) [⟨vk, vt, vn⟩] none [] (w9.alloc (.cells #[.int .i64 vk, .string vt, .int .i64 vn] 72)) from ⟨vals_one w9 ⟨vk, vt, vn⟩, RAt.nil _ _ _ _, fun g hg _ p off e => by injection e with e; injection e with e1 e2; omega, fun g _ h => absurd h (by simp)⟩)
    clear HM9 hq0l
    go_wp2_with (refine wpList_store_oc _ rfl _ _ _ rfl q0 _ [.int .i64 7, .string name, .string ⟨#[]⟩, .string sg, .slice (some ⟨w9.heap.size, 0, none⟩) 1 1, .slice none 0 0, .int .i64 0, .int .i64 0, .slice none 0 0] _ rfl rfl HMa.out.ob sizeCond rfl rfl ?_)
    intro wz oz kz
    have HMz := Lib.hid (HMa.out.write oz kz)
    have HPz := Lib.hid (HPa.out.kept kz (Nat.le_refl _))
    have r0 := oz.cell 0 _ rfl
    have r1 := oz.cell 1 _ rfl
    have r2 := oz.cell 2 _ rfl
    have r3 := oz.cell 3 _ rfl
    have r4 := oz.cell 4 _ rfl
    have r5 := oz.cell 5 _ rfl
    have r6 := oz.cell 6 _ rfl
    have r7 := oz.cell 7 _ rfl
    have r8 := oz.cell 8 _ rfl
    clear oz kz HMa HPa
    go_wp2_with fail
    refine bodyPost_ret (v := .agg #[.int .i64 7, .string name, .string ⟨#[]⟩, .string sg, .slice (some ⟨w9.heap.size, 0, none⟩) 1 1, .slice none 0 0, .int .i64 0, .int .i64 0, .slice none 0 0]) (by simp [results, Tryz.results67, go_sem, r0, r1, r2, r3, r4, r5, r6, r7, r8]) rfl ?_
    exact leafC (K := K + 40) (M := 1) (n := ⟨7, name, ⟨#[]⟩, sg, (some ⟨w9.heap.size, 0, none⟩), 1, [⟨vk, vt, vn⟩], none, 0, [], 0, 0, none, 0⟩) HPz.out (nd_ok (by omega) hname (by decide) hsg ⟨Nat.le_refl _, le_maxLen (by decide), by simp⟩ ⟨Nat.le_refl _, Nat.zero_le _, Nat.zero_le _⟩ (by omega) (by omega) (fun v hv => by obtain rfl := List.mem_singleton.1 hv; exact HVO.out) (by simp)) rfl rfl HMz.out.lo HMz.out.gr (strm_mono HMz.out.st (by omega)) (Nat.le_refl _) (by first | (simp; done) | (simp only; omega)) (by first | (simp; done) | (simp only; omega))
end Go.Proofs.YtfdpfkdfglombaaGreatDoor
/- A condition in a variable of its own, whose conditions grow. -/
set_option linter.unusedVariables false
namespace Go.Proofs.YtfdpfkdfglombaaGreatDoor
open Go.RowKit

theorem szN_step {w : World} : ∀ (d : Nat) (c : Cn), TAt d w c → szN (d + 1) c = szN d c
  | 0, _, h => h.elim
  | d + 1, c, ⟨_, _, _, _, _, hC⟩ => by
    show 1 + (c.args.map (szN (d + 1))).sum = 1 + (c.args.map (szN d)).sum
    congr 2
    exact List.map_congr_left fun x hx => szN_step d x (hC x hx)
theorem szN_mono {w : World} {c : Cn} {d d' : Nat} (h : TAt d w c) (hd : d ≤ d') : szN d' c = szN d c := by
  induction d' with
  | zero => obtain rfl : d = 0 := by omega
            rfl
  | succ d' ih =>
    by_cases e : d = d' + 1
    · subst e; rfl
    · rw [szN_step d' c (h.mono (by omega)), ih (by omega)]
theorem smT_step {w : World} : ∀ (d : Nat) (c : Cn), TAt d w c → smT d c → smT (d + 1) c
  | 0, _, h, _ => h.elim
  | d + 1, c, ⟨_, _, _, _, _, hC⟩, ⟨h1, h2, h3⟩ => ⟨h1, h2, fun x hx => smT_step d x (hC x hx) (h3 x hx)⟩
theorem smT_mono {w : World} {c : Cn} {d d' : Nat} (h : TAt d w c) (hd : d ≤ d') (hs : smT d c) : smT d' c := by
  induction d' with
  | zero => obtain rfl : d = 0 := by omega
            exact hs
  | succ d' ih =>
    by_cases e : d = d' + 1
    · subst e; exact hs
    · exact smT_step d' c (h.mono (by omega)) (ih (by omega))
theorem szS_mono {w : World} {c : Cn} {d d' M M' : Nat} (h : TAt d w c) (hd : d ≤ d') (hM : M ≤ M') (hs : szS d c M) : szS d' c M' :=
  ⟨by rw [szN_mono h hd]; exact Nat.le_trans hs.1 hM, smT_mono h hd hs.2⟩
theorem sum_le_mul : ∀ (l : List Nat) (M : Nat), (∀ x ∈ l, x ≤ M) → l.sum ≤ l.length * M
  | [], _, _ => by simp
  | y :: r, M, h => by
    have h1 := h y (by simp)
    have h2 := sum_le_mul r M (fun x hx => h x (by simp [hx]))
    rw [List.sum_cons, List.length_cons, Nat.add_mul]
    omega
theorem nd_okZ {kind : Int} {a : Option Addr} {c : Nat} (hk : i64B kind) : Nd.ok ⟨kind, ⟨#[]⟩, ⟨#[]⟩, ⟨#[]⟩, none, 0, [], none, 0, [], 0, 0, a, c⟩ :=
  ⟨hk, (by decide : (⟨#[]⟩ : ByteArray).size ≤ 1000), (by decide : (⟨#[]⟩ : ByteArray).size ≤ 1000), (by decide : (⟨#[]⟩ : ByteArray).size ≤ 1000), ⟨Nat.le_refl _, Nat.zero_le _, Nat.zero_le _⟩, ⟨Nat.le_refl _, Nat.zero_le _, Nat.zero_le _⟩, (by unfold i64B; decide : i64B 0), (by unfold i64B; decide : i64B 0), fun _ h => (by cases h), fun _ h => (by cases h)⟩
/-- a condition that lies there, away from what is one's own -/
def Ela (d : Nat) (wr : World) (q : Nat) (cur : Value) (x : Cn) : Prop := TAt d wr x ∧ (∀ g, g ≤ q → FarT d x g) ∧ ∀ g, cur.ownBlock = some g → FarT d x g
/-- a condition in a variable of its own, whose conditions grow -/
structure CW (d : Nat) (w : World) (S : SC) (q0 q : Nat) (kind : Int) (cur : Value) (l : List Cn) (K : Nat) (wr : World) : Prop where
  mkk : Mk w S q0 condZ 30 K wr
  bx : OB wr q [.int .i64 kind, .string ⟨#[]⟩, .string ⟨#[]⟩, .string ⟨#[]⟩, .slice none 0 0, .slice none 0 0, .int .i64 0, .int .i64 0, cur] 30
  own : wr.ownsRow (q + 1) 30 9 cur l.length (l.flatMap Cn.cells)
  lt : q0 < q
  el : ∀ x ∈ l, Ela d wr q cur x
section
variable {d : Nat} {w wr w' : World} {S : SC} {q0 q K K' : Nat} {kind : Int} {cur : Value} {l : List Cn}
theorem CW.draw (h : CW d w S q0 q kind cur l K wr) (k : wr.grownBy w' (some S.g)) (s : Strm w' S K') : CW d w S q0 q kind cur l K' w' := by
  have h1 := h.mkk.sg
  have h2 := h.lt
  refine ⟨h.mkk.draw k s, h.bx.grown k (fun e => by have := Option.some.inj e; omega), ?_, h.lt, fun x hx => ⟨(h.el x hx).1.kept k (fun g e => by obtain rfl := Option.some.inj e; exact (h.el x hx).2.1 _ (by omega)), (h.el x hx).2⟩⟩
  refine h.own.kept k ?_
  cases hv : cur.ownBlock with
  | none => exact .inl rfl
  | some b => exact .inr (fun e => by have := (h.own.lt b hv).1; have := Option.some.inj e; omega)
theorem CW.alloc (h : CW d w S q0 q kind cur l K wr) (o : Obj) : CW d w S q0 q kind cur l K (wr.alloc o) := h.draw (World.grownBy_alloc _ _ _) (strm_alloc h.mkk.st _)
theorem CW.mono (h : CW d w S q0 q kind cur l K wr) (hK : K ≤ K') : CW d w S q0 q kind cur l K' wr := h.draw ⟨rfl, rfl, rfl, Nat.le_refl _, fun _ _ _ => rfl⟩ (strm_mono h.mkk.st hK)
theorem CW.drew (h : CW d w S q0 q kind cur l K wr) : CW d w S q0 q kind cur l K wr.drew := h.draw ⟨rfl, rfl, rfl, Nat.le_refl _, fun _ _ _ => rfl⟩ (show Strm wr.drew S K from h.mkk.st)
theorem CW.app {x : Cn} {g cap : Nat} (h : CW d w S q0 q kind cur l K wr) (hx : Ela d wr q cur x) (own : w'.ownsRow (q + 1) 30 9 (.slice (some ⟨g, 0, none⟩) (l.length + 1) cap) (l.length + 1) (l.flatMap Cn.cells ++ x.cells)) (k : wr.grownBy w' cur.ownBlock) (hat : cur.ownBlock = some g ∨ g = wr.heap.size) :
    w'.cell? ⟨q, 8, none⟩ = some cur ∧ w'.frozen? ⟨q, 8, none⟩ = false ∧ q < w'.heap.size ∧ CW d w S q0 q kind (.slice (some ⟨g, 0, none⟩) (l.length + 1) cap) (l ++ [x]) K (w'.setCell ⟨q, 8, none⟩ (.slice (some ⟨g, 0, none⟩) (l.length + 1) cap)) := by
  have h1 := h.mkk.sg
  have h2 := h.lt
  have h3 := h.mkk.lo
  have hr : ∀ b, cur.ownBlock = some b → q + 1 ≤ b := fun b hb => (h.own.lt b hb).1
  have hbx : OB w' q _ 30 := h.bx.grown k (fun e => by have := hr q e; omega)
  have hmk0 : OB w' q0 condZ 30 := h.mkk.ob.grown k (fun e => by have := hr q0 e; omega)
  have hgr : w.grownBy w' (some S.g) := grown_own h.mkk.gr k (fun b hb => by have := hr b hb; omega)
  have hst : Strm w' S K := strm_own h.mkk.st k (fun b hb => by have := hr b hb; omega)
  have hset : w'.grownBy (w'.setCell ⟨q, 8, none⟩ (.slice (some ⟨g, 0, none⟩) (l.length + 1) cap)) (some q) := ⟨rfl, rfl, rfl, by simp [World.setCell], fun i _ hne => Below.heap_setCell w' _ _ i (by rintro rfl; exact hne rfl)⟩
  have hq : q < wr.heap.size := h.bx.lt
  refine ⟨hbx.cell 8 _ rfl, hbx.free 8, hbx.lt, ⟨⟨hmk0.grown hset (fun e => by have := Option.some.inj e; omega), strm_own hst hset (fun b hb => by have := Option.some.inj hb; omega), grown_own hgr hset (fun b hb => by have := Option.some.inj hb; omega), h.mkk.lo, h1⟩, hbx.put 8 _ rfl, ?_, h.lt, fun y hy => ?_⟩⟩
  · have own' : w'.ownsRow (q + 1) 30 9 (.slice (some ⟨g, 0, none⟩) (l.length + 1) cap) (l ++ [x]).length ((l ++ [x]).flatMap Cn.cells) := by simpa using own
    refine own'.kept hset (.inr ?_)
    intro e
    have h5 := (own'.lt g (by simp [Value.ownBlock])).1
    have h6 := Option.some.inj e
    simp only at h5 h6
    omega
  · have hy' : Ela d wr q cur y := by
      rcases List.mem_append.1 hy with hy | hy
      · exact h.el y hy
      · obtain rfl := List.mem_singleton.1 hy
        exact hx
    obtain ⟨t1, t2, t3⟩ := hy'
    refine ⟨(t1.kept k t3).kept hset (fun g' e => by obtain rfl := Option.some.inj e; exact t2 _ (Nat.le_refl _)), t2, fun g' hg' => ?_⟩
    obtain rfl : g = g' := by simpa [Value.ownBlock] using hg'
    rcases hat with e | e
    · exact t3 _ e
    · exact t1.newFar (by omega)
theorem CW.gen {w9 : World} {a : Option Addr} {c M M1 : Nat} (h : CW d w S q0 q kind (.slice a l.length c) l K wr) (hk : i64B kind) (hc1 : l.length ≤ c) (hc2 : c ≤ maxLen) (hl : l.length ≤ wdM) (k9 : wr.grownBy w9 (some q0)) (o9 : OB w9 q0 [.int .i64 kind, .string ⟨#[]⟩, .string ⟨#[]⟩, .string ⟨#[]⟩, .slice none 0 0, .slice none 0 0, .int .i64 0, .int .i64 0, .slice a l.length c] 30) (hK : K ≤ K') (hsz : ∀ x ∈ l, szS d x M1) (hM : 1 + l.length * M1 ≤ M) :
    GenC S K' w (d + 1) M (.returned (.agg #[.int .i64 kind, .string ⟨#[]⟩, .string ⟨#[]⟩, .string ⟨#[]⟩, .slice none 0 0, .slice none 0 0, .int .i64 0, .int .i64 0, .slice a l.length c])) w9 := by
  have h2 := h.lt
  have h3 := h.mkk.lo
  obtain ⟨a', c', e, hI, -, -⟩ := RAt.of_own h.own (fun x _ => x.len)
  injection e with e1 e2 e3
  subst e1 e3
  have hfar : ∀ p off, a = some ⟨p, off, none⟩ → q + 1 ≤ p := fun p off e => (h.own.lt p (by rw [e]; rfl)).1
  have hF : ∀ g, g ≤ q → Far a l.length g := fun g hg _ p off e => by have := hfar p off e; omega
  have hm := h.mkk.write o9 k9
  refine ⟨.mk ⟨kind, ⟨#[]⟩, ⟨#[]⟩, ⟨#[]⟩, none, 0, [], none, 0, [], 0, 0, a, c⟩ l, rfl, ⟨nd_okZ hk, ⟨hc1, hc2, hl⟩, RAt.nil _ _ _ _, RAt.nil _ _ _ _, hI.kept k9 (fun g e => by obtain rfl := Option.some.inj e; exact hF _ (by omega)), fun x hx => (h.el x hx).1.kept k9 (fun g e => by obtain rfl := Option.some.inj e; exact (h.el x hx).2.1 _ (by omega))⟩, fun g hg => ⟨fun h => absurd h (by simp [Cn.nd]), fun h => absurd h (by simp [Cn.nd]), hF g (by omega), fun x hx => (h.el x hx).2.1 g (by omega)⟩, ⟨?_, (by decide : 0 ≤ 9), (by decide : 0 ≤ 100), fun x hx => (hsz x hx).2⟩, hm.gr, strm_mono hm.st hK⟩
  show 1 + (l.map (szN d)).sum ≤ M
  have := sum_le_mul (l.map (szN d)) M1 (fun y hy => by obtain ⟨x, hx, rfl⟩ := List.mem_map.1 hy; exact (hsz x hx).1)
  rw [List.length_map] at this
  omega
end
def Cn.agg' (c : Cn) : Value := .agg #[.int .i64 c.nd.kind, .string c.nd.name, .string c.nd.field, .string c.nd.sign, .slice c.nd.va c.nd.vals.length c.nd.vc, .slice c.nd.wa c.nd.whs.length c.nd.wc, .int .i64 c.nd.within, .int .i64 c.nd.number, .slice c.nd.aa c.args.length c.nd.ac]
/-- what the region that appends a new condition keeps -/
structure JC1 (d : Nat) (w : World) (S : SC) (q0 q : Nat) (kind : Int) (cur : Value) (l : List Cn) (K0 kn M : Nat) (s1 s5 s6 : Nat) (b : Msk) (v : Nat → Value) (wr : World) : Prop where
  base : CW d w S q0 q kind cur l (K0 + cond (b 5) kn 0) wr
  p1 : b 1 = true → v s1 = cur
  p5 : b 5 = true → ∃ x : Cn, v s5 = x.agg' ∧ Ela d wr q cur x ∧ szS d x M
  p6 : b 6 = true → ∃ h, ∃ x : Cn, v s6 = .slice (some ⟨h, 0, none⟩) 1 1 ∧ Ela d wr q cur x ∧ szS d x M ∧ h ≠ S.g ∧ OB wr h x.cells 30
end Go.Proofs.YtfdpfkdfglombaaGreatDoor
/- (*Stream).Cond: a right condition (printed by gen_cond.py). -/
set_option linter.unusedVariables false
namespace Go.Proofs.YtfdpfkdfglombaaGreatDoor
open Go.RowKit

def kcC : Nat → Nat
  | 0 => 41
  | n + 1 => 3 * kcC n + 5
def mcC : Nat → Nat
  | 0 => 1
  | n + 1 => 5 * mcC n + 6
theorem kcC_ge : ∀ n, 41 ≤ kcC n
  | 0 => Nat.le_refl _
  | n + 1 => by have := kcC_ge n; simp only [kcC]; omega
/-- the condition that is not x -/
def notC (x : Cn) (h : Nat) : Cn := .mk ⟨5, ⟨#[]⟩, ⟨#[]⟩, ⟨#[]⟩, none, 0, [], none, 0, [], 0, 0, some ⟨h, 0, none⟩, 1⟩ [x]
theorem one_cond {w : World} {h : Nat} {x : Cn} (o : OB w h x.cells 30) : RAt w (some ⟨h, 0, none⟩) 9 Cn.cells [x] := by
  refine RAt.block (t := 30) ?_ (fun x _ => rfl)
  show w.heap[h]? = _
  rw [show ([x].flatMap Cn.cells) = x.cells by simp]
  exact o
theorem notC_el {d q h g : Nat} {n cap : Nat} {w : World} {x : Cn} (hx : Ela d w q (.slice (some ⟨g, 0, none⟩) n cap) x) (o : OB w h x.cells 30) (hq : q < h) (hg : h ≠ g) : Ela (d + 1) w q (.slice (some ⟨g, 0, none⟩) n cap) (notC x h) := by
  refine ⟨⟨nd_okZ (by unfold i64B; decide), ⟨Nat.le_refl _, (by unfold maxLen; omega : 1 ≤ maxLen), (by decide : 1 ≤ wdM)⟩, RAt.nil _ _ _ _, RAt.nil _ _ _ _, one_cond o, fun y hy => ?_⟩, fun g' hg' => ⟨fun h => absurd h (by simp [notC, Cn.nd]), fun h => absurd h (by simp [notC, Cn.nd]), fun _ p off e => ?_, fun y hy => ?_⟩, fun g' hg' => ⟨fun h => absurd h (by simp [notC, Cn.nd]), fun h => absurd h (by simp [notC, Cn.nd]), fun _ p off e => ?_, fun y hy => ?_⟩⟩
  · obtain rfl := List.mem_singleton.1 hy
    exact hx.1
  · have e1 : h = p := by simp only [notC, Cn.nd] at e; injection e with e; injection e
    omega
  · obtain rfl := List.mem_singleton.1 hy
    exact hx.2.1 g' hg'
  · have e1 : h = p := by simp only [notC, Cn.nd] at e; injection e with e; injection e
    obtain rfl : g = g' := by simpa [Value.ownBlock] using hg'
    omega
  · obtain rfl := List.mem_singleton.1 hy
    exact hx.2.2 g' hg'
theorem notC_sz {d h M : Nat} {x : Cn} (hx : szS d x M) : szS (d + 1) (notC x h) (M + 1) := by
  refine ⟨?_, (by decide : 0 ≤ 9), (by decide : 0 ≤ 100), fun y hy => by obtain rfl := List.mem_singleton.1 hy; exact hx.2⟩
  show 1 + ([x].map (szN d)).sum ≤ _
  have := hx.1
  simp
  omega
theorem Ela.up {d q : Nat} {w : World} {cur : Value} {x : Cn} (h : Ela d w q cur x) : Ela (d + 1) w q cur x :=
  ⟨h.1.mono (Nat.le_succ _), fun g hg => FarT.mono (Nat.le_succ _) h.1 (h.2.1 g hg), fun g hg => FarT.mono (Nat.le_succ _) h.1 (h.2.2 g hg)⟩
theorem CW.up {d : Nat} {w wr : World} {S : SC} {q0 q K : Nat} {kind : Int} {cur : Value} {l : List Cn} (h : CW d w S q0 q kind cur l K wr) : CW (d + 1) w S q0 q kind cur l K wr :=
  ⟨h.mkk, h.bx, h.own, h.lt, fun x hx => (h.el x hx).up⟩
/-- a maker's condition, stored as the result -/
theorem GenC.store {S : SC} {K K' d d' M M' q0 : Nat} {w w2 w3 w9 : World} {cs : List Value} {c : Cn} (hM : Mk w S q0 cs 30 K w3) (hT : TAt d w3 c) (hF : ∀ g, g < w2.heap.size → FarT d c g) (hsz : szS d c M) (h2 : w.heap.size ≤ w2.heap.size) (hq : q0 < w2.heap.size)
    (k9 : w3.grownBy w9 (some q0)) (o9 : OB w9 q0 c.cells 30) (hd : d ≤ d') (hMM : M ≤ M') (hK : K ≤ K') : GenC S K' w d' M' (.returned (.agg c.cells.toArray)) w9 := by
  have hm := hM.write o9 k9
  have hT9 := hT.kept k9 (fun g e => by obtain rfl := Option.some.inj e; exact hF _ hq)
  refine ⟨c, rfl, hT9.mono hd, fun g hg => FarT.mono hd hT (hF g (by omega)), szS_mono hT hd hMM hsz, hm.gr, strm_mono hm.st hK⟩
/-- what the region that appends a copy keeps -/
structure JE (d : Nat) (w : World) (S : SC) (q0 q : Nat) (kind : Int) (g cap : Nat) (x : Cn) (l : List Cn) (K : Nat) (s1 s3 s4 s5 s6 : Nat) (b : Msk) (v : Nat → Value) (wr : World) : Prop where
  base : CW d w S q0 q kind (.slice (some ⟨g, 0, none⟩) l.length cap) l K wr
  p1 : b 1 = true → v s1 = .slice (some ⟨g, 0, none⟩) l.length cap
  p3 : b 3 = true → v s3 = .slice (some ⟨g, 0, none⟩) l.length cap
  p4 : b 4 = true → v s4 = .pointer (some ⟨g, 0, none⟩)
  p5 : b 5 = true → v s5 = x.agg'
  p6 : b 6 = true → ∃ h, v s6 = .slice (some ⟨h, 0, none⟩) 1 1 ∧ OB wr h x.cells 30 ∧ q < h ∧ h ≠ g
theorem CW.at0 {d : Nat} {w wr : World} {S : SC} {q0 q K g cap : Nat} {kind : Int} {l : List Cn} (h : CW d w S q0 q kind (.slice (some ⟨g, 0, none⟩) l.length cap) l K wr) {x : Cn} (hl : 0 < l.length) (hx : l[0] = x) :
    g < wr.heap.size ∧ q < g ∧ wr.cell? ⟨g, 0, none⟩ = some (.int .i64 x.nd.kind) ∧ wr.cell? ⟨g, 1, none⟩ = some (.string x.nd.name) ∧ wr.cell? ⟨g, 2, none⟩ = some (.string x.nd.field) ∧ wr.cell? ⟨g, 3, none⟩ = some (.string x.nd.sign) ∧ wr.cell? ⟨g, 4, none⟩ = some (.slice x.nd.va x.nd.vals.length x.nd.vc) ∧ wr.cell? ⟨g, 5, none⟩ = some (.slice x.nd.wa x.nd.whs.length x.nd.wc) ∧ wr.cell? ⟨g, 6, none⟩ = some (.int .i64 x.nd.within) ∧ wr.cell? ⟨g, 7, none⟩ = some (.int .i64 x.nd.number) ∧ wr.cell? ⟨g, 8, none⟩ = some (.slice x.nd.aa x.args.length x.nd.ac) := by
  subst hx
  obtain ⟨a, c, e, hI, -, -⟩ := RAt.of_own h.own (fun x _ => x.len)
  injection e with e1 e2 e3
  subst e1
  obtain ⟨p, off, e, hp, c0, c1, c2, c3, c4, c5, c6, c7, c8⟩ := hI.at9c hl
  injection e with e
  injection e with e1 e2
  subst e1 e2
  have := (h.own.lt g (by simp [Value.ownBlock])).1
  simp only [Nat.zero_mul, Nat.zero_add] at c0 c1 c2 c3 c4 c5 c6 c7 c8
  exact ⟨hp, by omega, c0, c1, c2, c3, c4, c5, c6, c7, c8⟩
theorem CW.form {d : Nat} {w wr : World} {S : SC} {q0 q K : Nat} {kind : Int} {cur : Value} {l : List Cn} (h : CW d w S q0 q kind cur l K wr) (hl : 0 < l.length) : ∃ g cap, cur = .slice (some ⟨g, 0, none⟩) l.length cap ∧ l.length ≤ cap ∧ cap ≤ maxLen := by
  rcases h.own.2 with ⟨_, h0⟩ | ⟨g, cap, arr, e, _, _, h1, h2, _⟩
  · omega
  · exact ⟨g, cap, e, h1, h2⟩
/-- what the region that appends the contrary keeps -/
structure JN (d : Nat) (w : World) (S : SC) (q0 q : Nat) (kind : Int) (g cap : Nat) (x : Cn) (l : List Cn) (K : Nat) (s1 s3 s4 s5 s6 s7 s8 : Nat) (b : Msk) (v : Nat → Value) (wr : World) : Prop where
  base : CW d w S q0 q kind (.slice (some ⟨g, 0, none⟩) l.length cap) l K wr
  p1 : b 1 = true → v s1 = .slice (some ⟨g, 0, none⟩) l.length cap
  p3 : b 3 = true → v s3 = .slice (some ⟨g, 0, none⟩) l.length cap
  p4 : b 4 = true → v s4 = .pointer (some ⟨g, 0, none⟩)
  p5 : b 5 = true → v s5 = x.agg'
  p6 : b 6 = true → ∃ h, v s6 = .slice (some ⟨h, 0, none⟩) 1 1 ∧ OB wr h x.cells 30 ∧ q < h ∧ h ≠ g
  p7 : b 7 = true → ∃ h, v s7 = (notC x h).agg' ∧ OB wr h x.cells 30 ∧ q < h ∧ h ≠ g
  p8 : b 8 = true → ∃ h2 h, v s8 = .slice (some ⟨h2, 0, none⟩) 1 1 ∧ OB wr h2 (notC x h).cells 30 ∧ OB wr h x.cells 30 ∧ q < h ∧ h ≠ g
set_option maxRecDepth 100000 in
set_option maxHeartbeats 4000000 in
theorem cond_zero (S : SC) (K : Nat) (w : World) (hs : Strm w S K) (hK : K ≤ 9000) : Calls Tryz.prog 25 #[S.p, .int .i64 0] w (GenC S (K + kcC 0) w (2 * 0 + 1) (mcC 0)) := by
  have HM := Lib.hid (Mk.new hs condZ 30)
  clear hs
  go_enter Tryz.func25, Tryz.ntmps25
  go_upto_region 1 with (fail)
  unfold condZ at HM
  simp only [List.toArray] at HM
  generalize w.alloc (.cells _ 30) = w1 at *
  have HM0 := Lib.hid (show Mk w S w.heap.size condZ 30 K w1 from HM.out)
  clear HM
  obtain ⟨q0, hq0⟩ : ∃ z, w.heap.size = z := ⟨_, rfl⟩
  rw [hq0] at HM0 ⊢
  clear hq0
  have s1 := HM0.out.st
  obtain ⟨w2, rfl⟩ : ∃ z, z = w1 := ⟨_, rfl⟩
  have s2 := s1
  have HM2 := HM0
  clear HM0 s1
  go_wp2_with fail
  ((with_reducible refine (test_any S _ _ s2 (by omega)).mono ?_); rintro e w3 ⟨x, rfl, hT, hF, hsz, kk, s3⟩)
  have HM3 := Lib.hid (HM2.out.draw kk s3)
  have HT3 := Lib.hid hT
  have HF3 := Lib.hid hF
  have HZ3 := Lib.hid hsz
  have hq2 := HM2.out.ob.lt
  have hw2 := Lib.hid HM2.out.gr.size
  clear hT hF hsz kk s3 s2 HM2
  simp only [Cn.cells]
  go_wp2_with (refine wpList_store_oc _ rfl _ _ _ rfl q0 _ [.int .i64 x.nd.kind, .string x.nd.name, .string x.nd.field, .string x.nd.sign, .slice x.nd.va x.nd.vals.length x.nd.vc, .slice x.nd.wa x.nd.whs.length x.nd.wc, .int .i64 x.nd.within, .int .i64 x.nd.number, .slice x.nd.aa x.args.length x.nd.ac] _ rfl rfl HM3.out.ob sizeCond rfl rfl ?_)
  intro wz oz kz
  have r0 := oz.cell 0 _ rfl
  have r1 := oz.cell 1 _ rfl
  have r2 := oz.cell 2 _ rfl
  have r3 := oz.cell 3 _ rfl
  have r4 := oz.cell 4 _ rfl
  have r5 := oz.cell 5 _ rfl
  have r6 := oz.cell 6 _ rfl
  have r7 := oz.cell 7 _ rfl
  have r8 := oz.cell 8 _ rfl
  have HOz := Lib.hid oz
  have HKz := Lib.hid kz
  clear oz kz
  go_wp2_with fail
  refine bodyPost_ret (v := .agg #[.int .i64 x.nd.kind, .string x.nd.name, .string x.nd.field, .string x.nd.sign, .slice x.nd.va x.nd.vals.length x.nd.vc, .slice x.nd.wa x.nd.whs.length x.nd.wc, .int .i64 x.nd.within, .int .i64 x.nd.number, .slice x.nd.aa x.args.length x.nd.ac]) (by simp [results, Tryz.results25, go_sem, r0, r1, r2, r3, r4, r5, r6, r7, r8]) rfl ?_
  exact GenC.store (K' := K + kcC 0) (d' := 2 * 0 + 1) (M' := mcC 0) HM3.out HT3.out HF3.out HZ3.out hw2.out hq2 HKz.out HOz.out (by omega) (Nat.le_refl _) (by simp only [kcC]; omega)
set_option maxRecDepth 100000 in
set_option maxHeartbeats 16000000 in
theorem cond_succ (S : SC) (n : Nat) (hn : n ≤ 2) (ih : ∀ (dp : Int), dp = n → ∀ (K : Nat) (w : World), Strm w S K → K + kcC n ≤ 9000 → Calls Tryz.prog 25 #[S.p, .int .i64 dp] w (GenC S (K + kcC n) w (2 * n + 1) (mcC n)))
    (dp : Int) (hdp : dp = ((n + 1 : Nat) : Int)) (K : Nat) (w : World) (hs : Strm w S K) (hK : K + kcC (n + 1) ≤ 9000) : Calls Tryz.prog 25 #[S.p, .int .i64 dp] w (GenC S (K + kcC (n + 1)) w (2 * (n + 1) + 1) (mcC (n + 1))) := by
  obtain ⟨i0, hi, hz0, hz1, hz2⟩ := info_parts infoCond
  have IH := Lib.hid ih
  clear ih
  have hdp1 : 1 ≤ dp := by omega
  have hdp2 : dp ≤ 3 := by omega
  have hK1 : K ≤ 8995 := by simp only [kcC] at hK; omega
  have hk41 := kcC_ge n
  have HDP := Lib.hid hdp
  clear hdp
  have HM := Lib.hid (Mk.new hs condZ 30)
  clear hs
  go_enter Tryz.func25, Tryz.ntmps25
  go_upto_region 1 with (fail)
  unfold condZ at HM
  simp only [List.toArray] at HM
  generalize w.alloc (.cells _ 30) = w1 at *
  have HM0 := Lib.hid (show Mk w S w.heap.size condZ 30 K w1 from HM.out)
  clear HM
  obtain ⟨q0, hq0⟩ : ∃ z, w.heap.size = z := ⟨_, rfl⟩
  rw [hq0] at HM0 ⊢
  clear hq0
  have s1 := HM0.out.st
  have hd1 : ¬ dp < 1 := by omega
  go_wp2_with fail
  with_reducible refine (flip_any S _ _ _ s1 (by omega) (by omega)).mono ?_
  rintro e w2 ⟨b, rfl, k2, s2⟩
  have HM2 := Lib.hid (HM0.out.draw k2 s2)
  clear k2 s1 HM0
  cases b with
  | true =>
    go_wp2_with fail
    ((with_reducible refine (test_any S _ _ s2 (by omega)).mono ?_); rintro e w3 ⟨x, rfl, hT, hF, hsz, kk, s3⟩)
    have HM3 := Lib.hid (HM2.out.draw kk s3)
    have HT3 := Lib.hid hT
    have HF3 := Lib.hid hF
    have HZ3 := Lib.hid hsz
    have hq2 := HM2.out.ob.lt
    have hw2 := Lib.hid HM2.out.gr.size
    clear hT hF hsz kk s3 s2 HM2
    simp only [Cn.cells]
    go_wp2_with (refine wpList_store_oc _ rfl _ _ _ rfl q0 _ [.int .i64 x.nd.kind, .string x.nd.name, .string x.nd.field, .string x.nd.sign, .slice x.nd.va x.nd.vals.length x.nd.vc, .slice x.nd.wa x.nd.whs.length x.nd.wc, .int .i64 x.nd.within, .int .i64 x.nd.number, .slice x.nd.aa x.args.length x.nd.ac] _ rfl rfl HM3.out.ob sizeCond rfl rfl ?_)
    intro wz oz kz
    have r0 := oz.cell 0 _ rfl
    have r1 := oz.cell 1 _ rfl
    have r2 := oz.cell 2 _ rfl
    have r3 := oz.cell 3 _ rfl
    have r4 := oz.cell 4 _ rfl
    have r5 := oz.cell 5 _ rfl
    have r6 := oz.cell 6 _ rfl
    have r7 := oz.cell 7 _ rfl
    have r8 := oz.cell 8 _ rfl
    have HOz := Lib.hid oz
    have HKz := Lib.hid kz
    clear oz kz
    go_wp2_with fail
    refine bodyPost_ret (v := .agg #[.int .i64 x.nd.kind, .string x.nd.name, .string x.nd.field, .string x.nd.sign, .slice x.nd.va x.nd.vals.length x.nd.vc, .slice x.nd.wa x.nd.whs.length x.nd.wc, .int .i64 x.nd.within, .int .i64 x.nd.number, .slice x.nd.aa x.args.length x.nd.ac]) (by simp [results, Tryz.results25, go_sem, r0, r1, r2, r3, r4, r5, r6, r7, r8]) rfl ?_
    exact GenC.store (K' := K + kcC (n + 1)) (d' := 2 * (n + 1) + 1) (M' := mcC (n + 1)) HM3.out HT3.out HF3.out HZ3.out hw2.out hq2 HKz.out HOz.out (by omega) (by simp only [mcC]; omega) (by simp only [kcC]; omega)
  | false =>
    go_wp2_with fail
    with_reducible refine (pick_at S _ [3, 4, 5] 3 _ _ _ _ s2 (by omega) rfl (by omega) (by omega) (by simp) (by simp)).mono ?_
    rintro e w3 ⟨kind, hm, rfl, kk, s3⟩
    have hkind : 3 ≤ kind ∧ kind ≤ 5 := by
      simp only [List.mem_cons, List.mem_nil_iff, or_false] at hm
      omega
    have HM3 := Lib.hid (HM2.out.draw kk s3)
    clear hm kk HM2 s2
    have HW3 := Lib.hid (show CW (2 * n + 1) w S q0 w3.heap.size kind (.slice none 0 0) [] (K + 2) (w3.alloc (.cells #[.int .i64 kind, .string ⟨#[]⟩, .string ⟨#[]⟩, .string ⟨#[]⟩, .slice none 0 0, .slice none 0 0, .int .i64 0, .int .i64 0, .slice none 0 0] 30)) from ⟨(HM3.out.alloc _).mono (by omega), OB.new w3 [.int .i64 kind, .string ⟨#[]⟩, .string ⟨#[]⟩, .string ⟨#[]⟩, .slice none 0 0, .slice none 0 0, .int .i64 0, .int .i64 0, .slice none 0 0] 30, World.ownsRow_nil _ _ _ _, HM3.out.ob.lt, fun x hx => by cases hx⟩)
    clear HM3 s3
    go_upto_if 21 with (fail)
    generalize w3.alloc (.cells _ 30) = w4 at *
    generalize w3.heap.size = q at *
    go_cut [6] (fun t wx => ∃ m : Nat, t = .int .i64 (m : Int) ∧ 1 ≤ m ∧ m ≤ 3 ∧ CW (2 * n + 1) w S q0 q kind (.slice none 0 0) [] (K + 3) wx)
    case first =>
      have s4 := HW3.out.mkk.st
      by_cases h5 : kind = 5
      · subst h5
        go_wp2_with fail
        go_meet
        exact ⟨1, rfl, by omega, by omega, HW3.out.mono (by omega)⟩
      · have b5 : (kind != 5) = true := by simpa using h5
        clear h5
        go_wp2_with fail
        with_reducible refine (range_any S _ 2 3 _ s4 (by omega) (by omega) (by omega) (by omega)).mono ?_
        rintro e w5 ⟨m', ⟨hm0, hm1⟩, rfl, kk, s5⟩
        obtain ⟨m, rfl⟩ := Int.eq_ofNat_of_zero_le (show 0 ≤ m' by omega)
        have HW5 := Lib.hid (HW3.out.draw kk s5)
        clear kk s5 s4 HW3
        go_wp2_with fail
        go_meet
        exact ⟨m, rfl, by omega, by omega, HW5.out⟩
    case rest =>
    obtain ⟨m, rfl, hm1, hm3, hW⟩ := hcut
    have HW4 := Lib.hid hW
    clear hW HW3
    have HDN : Hid (dp - 1 = (n : Int)) := Lib.hid (by have := HDP.out; omega)
    obtain ⟨kn, hkn⟩ : ∃ z, kcC n = z := ⟨_, rfl⟩
    have HKN := Lib.hid hkn
    obtain ⟨D, hD⟩ : ∃ z, 2 * n + 1 = z := ⟨_, rfl⟩
    have HDD := Lib.hid hD
    obtain ⟨mn, hmn⟩ : ∃ z, mcC n = z := ⟨_, rfl⟩
    have HMN := Lib.hid hmn
    rw [hD] at HW4
    have hkk : K + 5 + 3 * kn ≤ 9000 := by rw [← hkn]; simp only [kcC] at hK; omega
    have IH' := Lib.hid (fun (dp : Int) (h : dp = n) (K : Nat) (w : World) (hs : Strm w S K) (hK : K + kn ≤ 9000) => show Calls Tryz.prog 25 #[S.p, .int .i64 dp] w (GenC S (K + kn) w D mn) by rw [← hkn, ← hD, ← hmn]; exact IH.out dp h K w hs (by omega))
    clear hkn hD hmn IH hK hk41
    go_wp2_with fail
    go_loopw [25] (fun i wr => ∃ (k : Nat) (cur : Value) (l : List Cn), k ≤ m ∧ i = .int .i64 k ∧ l.length = k ∧ Hid (∀ x ∈ l, szS D x mn) ∧ CW D w S q0 q kind cur l (K + 3 + kn * k) wr) (fun i _ => m - (intOf i).toNat)
    case atStart => exact ⟨0, _, [], Nat.zero_le _, rfl, rfl, Lib.hid (by simp), HW4.out⟩
    case round =>
      obtain ⟨k, cur, l, hk, rfl, hl, HSZ, hT⟩ := hrel
      have HT := Lib.hid hT
      have hll := Lib.hid hl
      clear hT HW4 hl
      by_cases hlt : k < m
      · --@a1
        have hnl : l.length ≤ 3 := by have := hll.out; omega
        have hkx : kn * k + kn ≤ 3 * kn := by
          have : kn * (k + 1) ≤ kn * 3 := Nat.mul_le_mul_left _ (by omega)
          rw [Nat.mul_succ] at this
          omega
        obtain ⟨kz, hkz⟩ : ∃ z, kn * k = z := ⟨_, rfl⟩
        rw [hkz] at HT hkx
        have HKZ := Lib.hid hkz
        clear hkz
        go_upto_region 9 with (fail)
        refine wp_region_any (by kernel_rfl) ?_
        change wpAny _ _ _ _ _ _ _ (World.drew _)
        have HTd := Lib.hid HT.out.drew
        clear HT
        generalize World.drew _ = wd at *
        refine wpAny_take (i := 0) (oi := ⟨some 27, _, _, _, _, _⟩) (v := (.pointer (some ⟨q, 8, none⟩))) rfl (by kernel_rfl) (by kernel_rfl) (by kernel_rfl) (fun _ _ _ h => h) (Or.inl ⟨by rfl, fun w => by go_simp⟩) ?_
        refine wpAny_take (i := 2) (oi := ⟨some 29, _, _, _, _, _⟩) (v := S.p) rfl (by kernel_rfl) (by kernel_rfl) (by kernel_rfl) (fun _ _ _ h => h) (Or.inl ⟨by rfl, fun w => by go_simp⟩) ?_
        refine wpAny_take (i := 3) (oi := ⟨some 30, _, _, _, _, _⟩) (v := .int .i64 dp) rfl (by kernel_rfl) (by kernel_rfl) (by kernel_rfl) (fun _ _ _ h => h) (Or.inl ⟨by rfl, fun w => by go_simp⟩) ?_
        refine wpAny_take (i := 4) (oi := ⟨some 31, _, _, _, _, _⟩) (v := .int .i64 (dp - 1)) rfl (by kernel_rfl) (by kernel_rfl) (by kernel_rfl) (fun _ _ _ h => h) (Or.inl ⟨by rfl, fun w => by go_simp; exact IntWalk.i64_in _ (by omega)⟩) ?_
        refine wpAny_mask (n := 3) (m := 6) #[true, false, true, true, true, false, false, false, false, false] [1, 5, 6] (fun i => if i = 6 then [5] else []) [28, 32, 33] (fun d => if d = 28 then u28 else if d = 32 then u32 else u33) (JC1 D w S q0 q kind cur l (K + 3 + kz) kn mn 28 32 33) rfl (by decide) (by kernel_rfl) (by kernel_rfl) ?stp ?hsp ?hendp
        case stp => exact ⟨HTd.out, fun e => (by cases e), fun e => (by cases e), fun e => (by cases e)⟩
        case hsp =>
          intro i hi b u wx hbi hD hJ
          simp only [List.mem_cons, List.mem_nil_iff, or_false] at hi
          have HJ := Lib.hid hJ
          rcases hi with rfl | rfl | rfl
          · refine wpOp_calm (o := ⟨some 28, ?ap1, ?ap2, ?ap3, ?ap4, ?ap5⟩) ?api ?apg ?_
            case api => exact rfl
            case apg => exact rfl
            intro K' Q' hK'
            have HK := Lib.hid hK'
            clear hK'
            have y1 := hJ.base.bx.cell 8 _ rfl
            have yl := hJ.base.bx.lt
            clear hJ
            simp only [setAll, List.foldl]
            go_simp
            exact HK.out _ _ ⟨upd u 28 cur, by kernel_rfl, ⟨HJ.out.base, fun _ => rfl, fun e => HJ.out.p5 e, fun e => HJ.out.p6 e⟩⟩
          · refine wpOp_calm (o := ⟨some 32, ?cp1, ?cp2, ?cp3, ?cp4, ?cp5⟩) ?cpi ?cpg ?_
            case cpi => exact rfl
            case cpg => exact rfl
            intro K' Q' hK'
            have HK := Lib.hid hK'
            clear hK'
            have C := IH'.out (dp - 1) HDN.out (K + 3 + kz) wx (strm_mono hJ.base.mkk.st (by rw [hbi]; exact Nat.le_refl _)) (by omega)
            have HC := Lib.hid C
            clear C
            clear hJ
            simp only [setAll, List.foldl]
            go_simp
            refine HC.out.mono ?_
            rintro e w' ⟨x, rfl, hT, hF, hsz, k', st⟩
            have hwx := HJ.out.base.bx.lt
            have he : Ela D w' q cur x := ⟨hT, fun g hg => hF g (by omega), fun g hg => hF g (HJ.out.base.own.lt g hg).2⟩
            exact HK.out _ _ ⟨upd u 32 x.agg', by kernel_rfl, ⟨HJ.out.base.draw k' st, fun e => HJ.out.p1 e, fun _ => ⟨x, rfl, he, hsz⟩, fun e => by
              obtain ⟨h, x, h1, h2, h3, h4, h5⟩ := HJ.out.p6 e
              have hq1 := HJ.out.base.mkk.sg
              have hq2 := HJ.out.base.lt
              exact ⟨h, x, h1, ⟨h2.1.kept k' (fun g e => by obtain rfl := Option.some.inj e; exact h2.2.1 _ (by omega)), h2.2⟩, h3, h4, h5.grown k' (fun e => h4 (Option.some.inj e).symm)⟩⟩⟩
          · refine wpOp_calm (o := ⟨some 33, ?dp1, ?dp2, ?dp3, ?dp4, ?dp5⟩) ?dpi ?dpg ?_
            case dpi => exact rfl
            case dpg => exact rfl
            intro K' Q' hK'
            have HK := Lib.hid hK'
            clear hK'
            obtain ⟨x, hz, hzm, hzs⟩ := HJ.out.p5 (hD 5 (by simp))
            unfold Cn.agg' at hz
            clear hJ
            simp only [setAll, List.foldl, hz]
            go_simp
            exact HK.out _ _ ⟨upd (upd u 32 x.agg') 33 (.slice (some ⟨wx.heap.size, 0, none⟩) 1 1), by unfold Cn.agg'; kernel_rfl, by
              have hz' : u 32 = x.agg' := hz
              rw [upd_same hz']
              exact ⟨HJ.out.base.alloc _, fun e => HJ.out.p1 e, fun e => by
                obtain ⟨x, h1, h2, h3⟩ := HJ.out.p5 e
                exact ⟨x, h1, ⟨h2.1.alloc _, h2.2⟩, h3⟩, fun _ => ⟨_, x, rfl, ⟨hzm.1.alloc _, hzm.2⟩, hzs, by have := strm_lt HJ.out.base.mkk.st; omega, OB.new wx x.cells 30⟩⟩⟩
        case hendp =>
          intro b u wx hb hJ
          obtain ⟨h, x, h6, hxe, hxs, hne, hc6⟩ := hJ.p6 (hb 6 (by simp))
          have h1 := hJ.p1 (hb 1 (by simp))
          have HW := Lib.hid (hJ.base.mono (show (K + 3 + kz) + cond (b 5) kn 0 ≤ K + 3 + kn * (k + 1) by rw [Nat.mul_succ, HKZ.out]; cases b 5 <;> simp only [cond] <;> omega))
          have hown := HW.out.own
          have hsz := HW.out.bx.lt
          obtain ⟨u32', hu32⟩ : ∃ z, u 32 = z := ⟨_, rfl⟩
          simp only [setAll, List.foldl, h1, h6, hu32]
          clear h1 h6 hb hJ hu32
          refine wpAny_ready (rs := [7]) (by kernel_rfl) (by simp) ?_
          refine AllReady.cons rfl (fun K6 hK6 => ?_) AllReady.nil
          refine step_append_lies (o := ⟨some 34, _, _, _, _, _⟩) _ (by rfl) (.tmp 28) (.tmp 33) 28 (by rfl) (q + 1) 30 i0 _ 9 144 Tryz.underlying28 hi hz0 hz1 hz2 rfl (by decide) cur l.length _ (by kernel_rfl) hown ⟨h, 0, none⟩ 1 1 x.cells (by kernel_rfl) (by rfl) ?cnp (by simp [Cn.cells, Value.oneCell']) (by decide) (by unfold maxLen; omega) (by omega) hsz _ rfl ?_
          case cnp =>
            intro j y hy
            have := hc6.cell j y hy
            rw [Addr.add]
            split
            · rename_i h0; subst h0; exact this
            · simpa using this
          intro g cap wy own hgrow hat hlt2
          have HWy := Lib.hid (HW.out.app hxe own hgrow hat)
          have f1 := HWy.out.1
          have f2 := HWy.out.2.1
          have f3 := HWy.out.2.2.1
          refine hK6 _ _ ?_
          clear hK6 K6 own hgrow hat hown HW hc6 hxe
          refine wpAny_take (i := 8) (oi := ⟨some 35, _, _, _, _, _⟩) (v := (.pointer (some ⟨q, 8, none⟩))) rfl (by kernel_rfl) (by kernel_rfl) (by kernel_rfl) (fun _ _ _ h => h) (Or.inl ⟨by rfl, fun w => by go_simp⟩) ?_
          refine wpAny_ready (rs := [9]) (by kernel_rfl) (by simp) ?_
          refine AllReady.cons rfl (fun K8 hK8 => ?_) AllReady.nil
          go_simp
          refine hK8 _ _ ?_
          clear hK8 K8
          refine wpAny_done (by kernel_rfl) ?_ _
          have HS := Lib.hid HWy.out.2.2.2
          clear HWy f1 f2 f3
          go_wp2_with fail
          go_roundw
          case rel => exact ⟨k + 1, _, l ++ [x], by omega, by go_num, by simp [hll.out], Lib.hid (fun y hy => by
            rcases List.mem_append.1 hy with hy | hy
            · exact HSZ.out y hy
            · obtain rfl := List.mem_singleton.1 hy
              exact hxs), HS.out⟩
          case measure => simp [intOf]; omega
        --@end
      · obtain rfl : k = m := by omega
        have hl0 : 0 < l.length := by have := hll.out; omega
        obtain ⟨g, cap, hcur, hcap1, hcap2⟩ := HT.out.form hl0
        subst hcur
        obtain ⟨K1, hK1'⟩ : ∃ z, K + 3 + kn * k + 1 = z := ⟨_, rfl⟩
        have HK1 := Lib.hid hK1'
        have hkb : kn * k ≤ 3 * kn := by
          have : kn * k ≤ kn * 3 := Nat.mul_le_mul_left _ (by omega)
          omega
        have hK1b : K1 ≤ 8999 := by omega
        have HK1L : Hid (K1 + 1 ≤ K + 3 * kn + 5) := Lib.hid (by omega)
        have HT0 := Lib.hid (HT.out.mono (show K + 3 + kn * k ≤ K1 - 1 by omega))
        have hK1p : 1 ≤ K1 := by omega
        clear HT hK1' hkb hkk
        have s4 := HT0.out.mkk.st
        go_upto_region 11 with (fail)
        go_cut [42] (fun u wx => ∃ b : Bool, u = .bool b ∧ CW D w S q0 q kind (.slice (some ⟨g, 0, none⟩) l.length cap) l K1 wx)
        case first =>
          by_cases h1 : 1 < k
          · have h1' : (1 : Int) < (k : Int) := by omega
            go_wp2_with fail
            with_reducible refine (flip_any S _ _ _ s4 (by omega) (by omega)).mono ?_
            rintro e w5 ⟨b, rfl, kk, s5⟩
            have HT5 := Lib.hid ((HT0.out.draw kk s5).mono (show K1 - 1 + 1 ≤ K1 by omega))
            clear kk s5 s4 HT0
            go_wp2_with fail
            go_meet
            exact ⟨b, rfl, HT5.out⟩
          · have h1' : ¬ (1 : Int) < (k : Int) := by omega
            go_wp2_with fail
            go_meet
            exact ⟨false, rfl, HT0.out.mono (by omega)⟩
        case rest =>
        obtain ⟨b, rfl, hT⟩ := hcut
        have HT := Lib.hid hT
        clear hT HT0 s4
        obtain ⟨x, hx0⟩ : ∃ z, l[0] = z := ⟨_, rfl⟩
        go_upto_if 42 with (fail)
        go_cut [] (fun wx => ∃ (g cap : Nat) (l' : List Cn), 0 < l'.length ∧ l'.length ≤ 4 ∧ l'.length ≤ cap ∧ cap ≤ maxLen ∧ Hid (∀ x ∈ l', szS D x mn) ∧ CW D w S q0 q kind (.slice (some ⟨g, 0, none⟩) l'.length cap) l' K1 wx)
        case first =>
          have hnl : l.length ≤ 3 := by have := hll.out; omega
          cases b with
          | false =>
            go_wp2_with fail
            go_meet
            exact ⟨g, cap, l, hl0, by omega, hcap1, hcap2, HSZ, HT.out⟩
          | true =>
            go_upto_region 12 with (fail)
            refine wp_region_any (by kernel_rfl) ?_
            change wpAny _ _ _ _ _ _ _ (World.drew _)
            have HTd := Lib.hid HT.out.drew
            clear HT
            generalize World.drew _ = wd at *
            refine wpAny_take (i := 0) (oi := ⟨some 43, _, _, _, _, _⟩) (v := (.pointer (some ⟨q, 8, none⟩))) rfl (by kernel_rfl) (by kernel_rfl) (by kernel_rfl) (fun _ _ _ h => h) (Or.inl ⟨by rfl, fun w => by go_simp⟩) ?_
            refine wpAny_take (i := 2) (oi := ⟨some 45, _, _, _, _, _⟩) (v := (.pointer (some ⟨q, 8, none⟩))) rfl (by kernel_rfl) (by kernel_rfl) (by kernel_rfl) (fun _ _ _ h => h) (Or.inl ⟨by rfl, fun w => by go_simp⟩) ?_
            refine wpAny_mask (n := 3) (m := 8) #[true, false, true, false, false, false, false, false, false, false] [1, 3, 4, 5, 6] (fun i => if i = 4 then [3] else if i = 5 then [4] else if i = 6 then [5] else []) [44, 46, 47, 48, 49] (fun d => if d = 44 then u44 else if d = 46 then u46 else if d = 47 then u47 else if d = 48 then u48 else u49) (JE D w S q0 q kind g cap x l K1 44 46 47 48 49) rfl (by decide) (by kernel_rfl) (by kernel_rfl) ?st12 ?hs12 ?he12
            case st12 => exact ⟨HTd.out, fun e => (by cases e), fun e => (by cases e), fun e => (by cases e), fun e => (by cases e), fun e => (by cases e)⟩
            case hs12 =>
              intro i hi b u wx hbi hD hJ
              simp only [List.mem_cons, List.mem_nil_iff, or_false] at hi
              have HJ := Lib.hid hJ
              rcases hi with rfl | rfl | rfl | rfl | rfl
              · --@r12a
                refine wpOp_calm (o := ⟨some 44, ?x12ap1, ?x12ap2, ?x12ap3, ?x12ap4, ?x12ap5⟩) ?x12api ?x12apg ?_
                case x12api => exact rfl
                case x12apg => exact rfl
                intro K' Q' hK'
                have HK := Lib.hid hK'
                clear hK'
                have y1 := hJ.base.bx.cell 8 _ rfl
                have yl := hJ.base.bx.lt
                clear hJ
                simp only [setAll, List.foldl]
                go_simp
                exact HK.out _ _ ⟨upd u 44 (.slice (some ⟨g, 0, none⟩) l.length cap), by kernel_rfl, ⟨HJ.out.base, fun _ => rfl, fun e => HJ.out.p3 e, fun e => HJ.out.p4 e, fun e => HJ.out.p5 e, fun e => HJ.out.p6 e⟩⟩
                --@end
              · --@r12b
                refine wpOp_calm (o := ⟨some 46, ?x12bp1, ?x12bp2, ?x12bp3, ?x12bp4, ?x12bp5⟩) ?x12bpi ?x12bpg ?_
                case x12bpi => exact rfl
                case x12bpg => exact rfl
                intro K' Q' hK'
                have HK := Lib.hid hK'
                clear hK'
                have y1 := hJ.base.bx.cell 8 _ rfl
                have yl := hJ.base.bx.lt
                clear hJ
                simp only [setAll, List.foldl]
                go_simp
                exact HK.out _ _ ⟨upd u 46 (.slice (some ⟨g, 0, none⟩) l.length cap), by kernel_rfl, ⟨HJ.out.base, fun e => HJ.out.p1 e, fun _ => rfl, fun e => HJ.out.p4 e, fun e => HJ.out.p5 e, fun e => HJ.out.p6 e⟩⟩
                --@end
              · --@r12c
                refine wpOp_calm (o := ⟨some 47, ?x12cp1, ?x12cp2, ?x12cp3, ?x12cp4, ?x12cp5⟩) ?x12cpi ?x12cpg ?_
                case x12cpi => exact rfl
                case x12cpg => exact rfl
                intro K' Q' hK'
                have HK := Lib.hid hK'
                clear hK'
                have h3 := HJ.out.p3 (hD 3 (by simp))
                clear hJ
                simp only [setAll, List.foldl, h3]
                go_simp
                exact HK.out _ _ ⟨upd (upd u 46 (.slice (some ⟨g, 0, none⟩) l.length cap)) 47 (.pointer (some ⟨g, 0, none⟩)), by kernel_rfl, by
                  rw [upd_same h3]
                  exact ⟨HJ.out.base, fun e => HJ.out.p1 e, fun e => HJ.out.p3 e, fun _ => rfl, fun e => HJ.out.p5 e, fun e => HJ.out.p6 e⟩⟩
                --@end
              · --@r12d
                refine wpOp_calm (o := ⟨some 48, ?x12dp1, ?x12dp2, ?x12dp3, ?x12dp4, ?x12dp5⟩) ?x12dpi ?x12dpg ?_
                case x12dpi => exact rfl
                case x12dpg => exact rfl
                intro K' Q' hK'
                have HK := Lib.hid hK'
                clear hK'
                have h4 := HJ.out.p4 (hD 4 (by simp))
                have AT := Lib.hid (HJ.out.base.at0 hl0 hx0)
                have gl := AT.out.1
                have c0 := AT.out.2.2.1
                have c1 := AT.out.2.2.2.1
                have c2 := AT.out.2.2.2.2.1
                have c3 := AT.out.2.2.2.2.2.1
                have c4 := AT.out.2.2.2.2.2.2.1
                have c5 := AT.out.2.2.2.2.2.2.2.1
                have c6 := AT.out.2.2.2.2.2.2.2.2.1
                have c7 := AT.out.2.2.2.2.2.2.2.2.2.1
                have c8 := AT.out.2.2.2.2.2.2.2.2.2.2
                clear AT
                clear hJ
                simp only [setAll, List.foldl, h4]
                go_simp
                exact HK.out _ _ ⟨upd (upd u 47 (.pointer (some ⟨g, 0, none⟩))) 48 x.agg', by unfold Cn.agg'; kernel_rfl, by
                  rw [upd_same h4]
                  exact ⟨HJ.out.base, fun e => HJ.out.p1 e, fun e => HJ.out.p3 e, fun e => HJ.out.p4 e, fun _ => rfl, fun e => HJ.out.p6 e⟩⟩
                --@end
              · --@r12e
                refine wpOp_calm (o := ⟨some 49, ?x12ep1, ?x12ep2, ?x12ep3, ?x12ep4, ?x12ep5⟩) ?x12epi ?x12epg ?_
                case x12epi => exact rfl
                case x12epg => exact rfl
                intro K' Q' hK'
                have HK := Lib.hid hK'
                clear hK'
                have h5 := HJ.out.p5 (hD 5 (by simp))
                have h5' := h5
                unfold Cn.agg' at h5
                have hgl := (HJ.out.base.at0 hl0 hx0).1
                have hql := HJ.out.base.bx.lt
                clear hJ
                simp only [setAll, List.foldl, h5]
                go_simp
                exact HK.out _ _ ⟨upd (upd u 48 x.agg') 49 (.slice (some ⟨wx.heap.size, 0, none⟩) 1 1), by unfold Cn.agg'; kernel_rfl, by
                  rw [upd_same h5']
                  exact ⟨HJ.out.base.alloc _, fun e => HJ.out.p1 e, fun e => HJ.out.p3 e, fun e => HJ.out.p4 e, fun e => HJ.out.p5 e, fun _ => ⟨_, rfl, OB.new wx x.cells 30, hql, by omega⟩⟩⟩
                --@end
            case he12 =>
              --@h12
              intro b u wx hb hJ
              obtain ⟨h, h6, hc6, hh1, hh2⟩ := hJ.p6 (hb 6 (by simp))
              have h1 := hJ.p1 (hb 1 (by simp))
              have HW := Lib.hid hJ.base
              have hxe : Ela D wx q (.slice (some ⟨g, 0, none⟩) l.length cap) x := hJ.base.el x (by rw [← hx0]; exact List.getElem_mem hl0)
              have hown := HW.out.own
              have hsz := HW.out.bx.lt
              obtain ⟨u46', hu46⟩ : ∃ z, u 46 = z := ⟨_, rfl⟩
              obtain ⟨u47', hu47⟩ : ∃ z, u 47 = z := ⟨_, rfl⟩
              obtain ⟨u48', hu48⟩ : ∃ z, u 48 = z := ⟨_, rfl⟩
              simp only [setAll, List.foldl, h1, h6, hu46, hu47, hu48]
              clear h1 h6 hb hJ hu46 hu47 hu48
              refine wpAny_ready (rs := [7]) (by kernel_rfl) (by simp) ?_
              refine AllReady.cons rfl (fun K6 hK6 => ?_) AllReady.nil
              refine step_append_lies (o := ⟨some 50, _, _, _, _, _⟩) _ (by rfl) (.tmp 44) (.tmp 49) 28 (by rfl) (q + 1) 30 i0 _ 9 144 Tryz.underlying28 hi hz0 hz1 hz2 rfl (by decide) (.slice (some ⟨g, 0, none⟩) l.length cap) l.length _ (by kernel_rfl) hown ⟨h, 0, none⟩ 1 1 x.cells (by kernel_rfl) (by rfl) ?cnp12 (by simp [Cn.cells, Value.oneCell']) (by decide) (by unfold maxLen; omega) (by omega) hsz _ rfl ?_
              case cnp12 =>
                intro j y hy
                have := hc6.cell j y hy
                rw [Addr.add]
                split
                · rename_i h0; subst h0; exact this
                · simpa using this
              intro g9 cap9 wy own hgrow hat hlt2
              have HWy := Lib.hid (HW.out.app hxe own hgrow hat)
              have f1 := HWy.out.1
              have f2 := HWy.out.2.1
              have f3 := HWy.out.2.2.1
              refine hK6 _ _ ?_
              clear hK6 K6 own hgrow hat hown HW hc6 hxe
              refine wpAny_take (i := 8) (oi := ⟨some 51, _, _, _, _, _⟩) (v := (.pointer (some ⟨q, 8, none⟩))) rfl (by kernel_rfl) (by kernel_rfl) (by kernel_rfl) (fun _ _ _ h => h) (Or.inl ⟨by rfl, fun w => by go_simp⟩) ?_
              refine wpAny_ready (rs := [9]) (by kernel_rfl) (by simp) ?_
              refine AllReady.cons rfl (fun K8 hK8 => ?_) AllReady.nil
              go_simp
              refine hK8 _ _ ?_
              clear hK8 K8
              refine wpAny_done (by kernel_rfl) ?_ _
              have HS := Lib.hid HWy.out.2.2.2
              clear HWy f1 f2 f3
              go_wp2_with fail
              go_meet
              exact ⟨g9, cap9, l ++ [x], by simp, by simp; omega, by
                have := HS.out.own.2
                rcases this with ⟨e, _⟩ | ⟨g', c', _, e, _, _, h1, h2, _⟩
                · cases e
                · injection e with _ _ e3
                  subst e3
                  exact h1, by
                have := HS.out.own.2
                rcases this with ⟨e, _⟩ | ⟨g', c', _, e, _, _, h1, h2, _⟩
                · cases e
                · injection e with _ _ e3
                  subst e3
                  exact h2, Lib.hid (fun y hy => by
                  rcases List.mem_append.1 hy with hy | hy
                  · exact HSZ.out y hy
                  · obtain rfl := List.mem_singleton.1 hy
                    rw [← hx0]; exact HSZ.out _ (List.getElem_mem hl0)), by
                have := HS.out
                simpa using this⟩
              --@end
        case rest =>
        clear HT HSZ hx0 hcap1 hcap2 hll hl0
        clear x l g cap
        obtain ⟨g, cap, l, hl0, h4l, hc1, hc2, HS1, hT⟩ := hcut
        have HT1 := Lib.hid hT
        clear hT
        have s5 := HT1.out.mkk.st
        go_upto_region 13 with (fail)
        go_cut [57] (fun u wx => ∃ b : Bool, u = .bool b ∧ CW D w S q0 q kind (.slice (some ⟨g, 0, none⟩) l.length cap) l (K1 + 1) wx)
        case first =>
          by_cases h1 : 1 < k
          · have h1' : (1 : Int) < (k : Int) := by omega
            go_wp2_with fail
            with_reducible refine (flip_any S _ _ _ s5 (by omega) (by omega)).mono ?_
            rintro e w5 ⟨b, rfl, kk, s6⟩
            have HT5 := Lib.hid (HT1.out.draw kk s6)
            clear kk s5 s6 HT1
            go_wp2_with fail
            go_meet
            exact ⟨b, rfl, HT5.out⟩
          · have h1' : ¬ (1 : Int) < (k : Int) := by omega
            go_wp2_with fail
            go_meet
            exact ⟨false, rfl, HT1.out.mono (by omega)⟩
        case rest =>
        obtain ⟨b, rfl, hT⟩ := hcut
        clear HT1 s5
        have HT := Lib.hid hT
        clear hT
        obtain ⟨x, hx0⟩ : ∃ z, l[0] = z := ⟨_, rfl⟩
        have HSU : Hid (∀ (wx : World) (y : Cn), y ∈ l → TAt D wx y → szS (D + 1) y (mn + 1)) := Lib.hid (fun wx y hy ht => szS_mono ht (Nat.le_succ _) (Nat.le_succ _) (HS1.out y hy))
        go_upto_if 57 with (fail)
        go_cut [] (fun wx => ∃ (g cap : Nat) (l' : List Cn), 0 < l'.length ∧ l'.length ≤ 5 ∧ l'.length ≤ cap ∧ cap ≤ maxLen ∧ Hid (∀ x ∈ l', szS (D + 1) x (mn + 1)) ∧ CW (D + 1) w S q0 q kind (.slice (some ⟨g, 0, none⟩) l'.length cap) l' (K1 + 1) wx)
        case first =>
          cases b with
          | false =>
            go_wp2_with fail
            go_meet
            exact ⟨g, cap, l, hl0, by omega, hc1, hc2, Lib.hid (fun y hy => HSU.out _ y hy (HT.out.el y hy).1), HT.out.up⟩
          | true =>
            go_upto_region 14 with (fail)
            refine wp_region_any (by kernel_rfl) ?_
            change wpAny _ _ _ _ _ _ _ (World.drew _)
            have HTd := Lib.hid HT.out.drew
            clear HT
            generalize World.drew _ = wd at *
            refine wpAny_take (i := 0) (oi := ⟨some 58, _, _, _, _, _⟩) (v := (.pointer (some ⟨q, 8, none⟩))) rfl (by kernel_rfl) (by kernel_rfl) (by kernel_rfl) (fun _ _ _ h => h) (Or.inl ⟨by rfl, fun w => by go_simp⟩) ?_
            refine wpAny_take (i := 2) (oi := ⟨some 60, _, _, _, _, _⟩) (v := (.pointer (some ⟨q, 8, none⟩))) rfl (by kernel_rfl) (by kernel_rfl) (by kernel_rfl) (fun _ _ _ h => h) (Or.inl ⟨by rfl, fun w => by go_simp⟩) ?_
            refine wpAny_mask (n := 3) (m := 10) #[true, false, true, false, false, false, false, false, false, false, false, false] [1, 3, 4, 5, 6, 7, 8] (fun i => if i = 4 then [3] else if i = 5 then [4] else if i = 6 then [5] else if i = 7 then [6] else if i = 8 then [7] else []) [59, 61, 62, 63, 64, 65, 66] (fun d => if d = 59 then u59 else if d = 61 then u61 else if d = 62 then u62 else if d = 63 then u63 else if d = 64 then u64 else if d = 65 then u65 else u66) (JN D w S q0 q kind g cap x l (K1 + 1) 59 61 62 63 64 65 66) rfl (by decide) (by kernel_rfl) (by kernel_rfl) ?st14 ?hs14 ?he14
            case st14 => exact ⟨HTd.out, fun e => (by cases e), fun e => (by cases e), fun e => (by cases e), fun e => (by cases e), fun e => (by cases e), fun e => (by cases e), fun e => (by cases e)⟩
            case hs14 =>
              intro i hi b u wx hbi hD hJ
              simp only [List.mem_cons, List.mem_nil_iff, or_false] at hi
              have HJ := Lib.hid hJ
              rcases hi with rfl | rfl | rfl | rfl | rfl | rfl | rfl
              · --@r14a
                refine wpOp_calm (o := ⟨some 59, ?x14ap1, ?x14ap2, ?x14ap3, ?x14ap4, ?x14ap5⟩) ?x14api ?x14apg ?_
                case x14api => exact rfl
                case x14apg => exact rfl
                intro K' Q' hK'
                have HK := Lib.hid hK'
                clear hK'
                have y1 := hJ.base.bx.cell 8 _ rfl
                have yl := hJ.base.bx.lt
                clear hJ
                simp only [setAll, List.foldl]
                go_simp
                exact HK.out _ _ ⟨upd u 59 (.slice (some ⟨g, 0, none⟩) l.length cap), by kernel_rfl, ⟨HJ.out.base, fun _ => rfl, fun e => HJ.out.p3 e, fun e => HJ.out.p4 e, fun e => HJ.out.p5 e, fun e => HJ.out.p6 e, fun e => HJ.out.p7 e, fun e => HJ.out.p8 e⟩⟩
                --@end
              · --@r14b
                refine wpOp_calm (o := ⟨some 61, ?x14bp1, ?x14bp2, ?x14bp3, ?x14bp4, ?x14bp5⟩) ?x14bpi ?x14bpg ?_
                case x14bpi => exact rfl
                case x14bpg => exact rfl
                intro K' Q' hK'
                have HK := Lib.hid hK'
                clear hK'
                have y1 := hJ.base.bx.cell 8 _ rfl
                have yl := hJ.base.bx.lt
                clear hJ
                simp only [setAll, List.foldl]
                go_simp
                exact HK.out _ _ ⟨upd u 61 (.slice (some ⟨g, 0, none⟩) l.length cap), by kernel_rfl, ⟨HJ.out.base, fun e => HJ.out.p1 e, fun _ => rfl, fun e => HJ.out.p4 e, fun e => HJ.out.p5 e, fun e => HJ.out.p6 e, fun e => HJ.out.p7 e, fun e => HJ.out.p8 e⟩⟩
                --@end
              · --@r14c
                refine wpOp_calm (o := ⟨some 62, ?x14cp1, ?x14cp2, ?x14cp3, ?x14cp4, ?x14cp5⟩) ?x14cpi ?x14cpg ?_
                case x14cpi => exact rfl
                case x14cpg => exact rfl
                intro K' Q' hK'
                have HK := Lib.hid hK'
                clear hK'
                have h3 := HJ.out.p3 (hD 3 (by simp))
                clear hJ
                simp only [setAll, List.foldl, h3]
                go_simp
                exact HK.out _ _ ⟨upd (upd u 61 (.slice (some ⟨g, 0, none⟩) l.length cap)) 62 (.pointer (some ⟨g, 0, none⟩)), by kernel_rfl, by
                  rw [upd_same h3]
                  exact ⟨HJ.out.base, fun e => HJ.out.p1 e, fun e => HJ.out.p3 e, fun _ => rfl, fun e => HJ.out.p5 e, fun e => HJ.out.p6 e, fun e => HJ.out.p7 e, fun e => HJ.out.p8 e⟩⟩
                --@end
              · --@r14d
                refine wpOp_calm (o := ⟨some 63, ?x14dp1, ?x14dp2, ?x14dp3, ?x14dp4, ?x14dp5⟩) ?x14dpi ?x14dpg ?_
                case x14dpi => exact rfl
                case x14dpg => exact rfl
                intro K' Q' hK'
                have HK := Lib.hid hK'
                clear hK'
                have h4 := HJ.out.p4 (hD 4 (by simp))
                have AT := Lib.hid (HJ.out.base.at0 hl0 hx0)
                have gl := AT.out.1
                have c0 := AT.out.2.2.1
                have c1 := AT.out.2.2.2.1
                have c2 := AT.out.2.2.2.2.1
                have c3 := AT.out.2.2.2.2.2.1
                have c4 := AT.out.2.2.2.2.2.2.1
                have c5 := AT.out.2.2.2.2.2.2.2.1
                have c6 := AT.out.2.2.2.2.2.2.2.2.1
                have c7 := AT.out.2.2.2.2.2.2.2.2.2.1
                have c8 := AT.out.2.2.2.2.2.2.2.2.2.2
                clear AT
                clear hJ
                simp only [setAll, List.foldl, h4]
                go_simp
                exact HK.out _ _ ⟨upd (upd u 62 (.pointer (some ⟨g, 0, none⟩))) 63 x.agg', by unfold Cn.agg'; kernel_rfl, by
                  rw [upd_same h4]
                  exact ⟨HJ.out.base, fun e => HJ.out.p1 e, fun e => HJ.out.p3 e, fun e => HJ.out.p4 e, fun _ => rfl, fun e => HJ.out.p6 e, fun e => HJ.out.p7 e, fun e => HJ.out.p8 e⟩⟩
                --@end
              · --@r14e
                refine wpOp_calm (o := ⟨some 64, ?x14ep1, ?x14ep2, ?x14ep3, ?x14ep4, ?x14ep5⟩) ?x14epi ?x14epg ?_
                case x14epi => exact rfl
                case x14epg => exact rfl
                intro K' Q' hK'
                have HK := Lib.hid hK'
                clear hK'
                have h5 := HJ.out.p5 (hD 5 (by simp))
                have h5' := h5
                unfold Cn.agg' at h5
                have hgl := (HJ.out.base.at0 hl0 hx0).1
                have hql := HJ.out.base.bx.lt
                clear hJ
                simp only [setAll, List.foldl, h5]
                go_simp
                exact HK.out _ _ ⟨upd (upd u 63 x.agg') 64 (.slice (some ⟨wx.heap.size, 0, none⟩) 1 1), by unfold Cn.agg'; kernel_rfl, by
                  rw [upd_same h5']
                  exact ⟨HJ.out.base.alloc _, fun e => HJ.out.p1 e, fun e => HJ.out.p3 e, fun e => HJ.out.p4 e, fun e => HJ.out.p5 e, fun _ => ⟨_, rfl, OB.new wx x.cells 30, hql, by omega⟩, fun e => by
                    obtain ⟨h, h1, h2, h3, h4⟩ := HJ.out.p7 e
                    exact ⟨h, h1, h2.alloc _, h3, h4⟩, fun e => by
                    obtain ⟨h2, h, h1, h3, h4, h5, h6⟩ := HJ.out.p8 e
                    exact ⟨h2, h, h1, h3.alloc _, h4.alloc _, h5, h6⟩⟩⟩
                --@end
              · --@r14f
                refine wpOp_calm (o := ⟨some 65, ?x14fp1, ?x14fp2, ?x14fp3, ?x14fp4, ?x14fp5⟩) ?x14fpi ?x14fpg ?_
                case x14fpi => exact rfl
                case x14fpg => exact rfl
                intro K' Q' hK'
                have HK := Lib.hid hK'
                clear hK'
                obtain ⟨h, h6, ho, hh1, hh2⟩ := HJ.out.p6 (hD 6 (by simp))
                clear hJ
                simp only [setAll, List.foldl, h6]
                go_simp
                exact HK.out _ _ ⟨upd (upd u 64 (.slice (some ⟨h, 0, none⟩) 1 1)) 65 (notC x h).agg', by unfold Cn.agg'; kernel_rfl, by
                  rw [upd_same h6]
                  exact ⟨HJ.out.base, fun e => HJ.out.p1 e, fun e => HJ.out.p3 e, fun e => HJ.out.p4 e, fun e => HJ.out.p5 e, fun e => HJ.out.p6 e, fun _ => ⟨h, rfl, ho, hh1, hh2⟩, fun e => HJ.out.p8 e⟩⟩
                --@end
              · --@r14g
                refine wpOp_calm (o := ⟨some 66, ?x14gp1, ?x14gp2, ?x14gp3, ?x14gp4, ?x14gp5⟩) ?x14gpi ?x14gpg ?_
                case x14gpi => exact rfl
                case x14gpg => exact rfl
                intro K' Q' hK'
                have HK := Lib.hid hK'
                clear hK'
                obtain ⟨h, h7, ho, hh1, hh2⟩ := HJ.out.p7 (hD 7 (by simp))
                have h7' := h7
                unfold Cn.agg' notC at h7
                simp only [Cn.nd, Cn.args, List.length_nil, List.length_singleton] at h7
                clear hJ
                simp only [setAll, List.foldl, h7]
                go_simp
                exact HK.out _ _ ⟨upd (upd u 65 (notC x h).agg') 66 (.slice (some ⟨wx.heap.size, 0, none⟩) 1 1), by unfold Cn.agg'; kernel_rfl, by
                  rw [upd_same h7']
                  exact ⟨HJ.out.base.alloc _, fun e => HJ.out.p1 e, fun e => HJ.out.p3 e, fun e => HJ.out.p4 e, fun e => HJ.out.p5 e, fun e => by
                    obtain ⟨h, h1, h2, h3, h4⟩ := HJ.out.p6 e
                    exact ⟨h, h1, h2.alloc _, h3, h4⟩, fun e => by
                    obtain ⟨h, h1, h2, h3, h4⟩ := HJ.out.p7 e
                    exact ⟨h, h1, h2.alloc _, h3, h4⟩, fun _ => ⟨_, h, rfl, OB.new wx (notC x h).cells 30, ho.alloc _, hh1, hh2⟩⟩⟩
                --@end
            case he14 =>
              --@h14
              intro b u wx hb hJ
              obtain ⟨h, h2, h6, hc6, ho2, hh1, hh2⟩ := hJ.p8 (hb 8 (by simp))
              have h1 := hJ.p1 (hb 1 (by simp))
              have HW := Lib.hid hJ.base.up
              have hxe : Ela (D + 1) wx q (.slice (some ⟨g, 0, none⟩) l.length cap) (notC x h2) := notC_el (hJ.base.el x (by rw [← hx0]; exact List.getElem_mem hl0)) ho2 hh1 hh2
              have hown := HW.out.own
              have hsz := HW.out.bx.lt
              obtain ⟨u61', hu61⟩ : ∃ z, u 61 = z := ⟨_, rfl⟩
              obtain ⟨u62', hu62⟩ : ∃ z, u 62 = z := ⟨_, rfl⟩
              obtain ⟨u63', hu63⟩ : ∃ z, u 63 = z := ⟨_, rfl⟩
              obtain ⟨u64', hu64⟩ : ∃ z, u 64 = z := ⟨_, rfl⟩
              obtain ⟨u65', hu65⟩ : ∃ z, u 65 = z := ⟨_, rfl⟩
              simp only [setAll, List.foldl, h1, h6, hu61, hu62, hu63, hu64, hu65]
              clear h1 h6 hb hJ hu61 hu62 hu63 hu64 hu65
              refine wpAny_ready (rs := [9]) (by kernel_rfl) (by simp) ?_
              refine AllReady.cons rfl (fun K6 hK6 => ?_) AllReady.nil
              refine step_append_lies (o := ⟨some 67, _, _, _, _, _⟩) _ (by rfl) (.tmp 59) (.tmp 66) 28 (by rfl) (q + 1) 30 i0 _ 9 144 Tryz.underlying28 hi hz0 hz1 hz2 rfl (by decide) (.slice (some ⟨g, 0, none⟩) l.length cap) l.length _ (by kernel_rfl) hown ⟨h, 0, none⟩ 1 1 (notC x h2).cells (by kernel_rfl) (by rfl) ?cnp14 (by simp [Cn.cells, Value.oneCell']) (by decide) (by unfold maxLen; omega) (by omega) hsz _ rfl ?_
              case cnp14 =>
                intro j y hy
                have := hc6.cell j y hy
                rw [Addr.add]
                split
                · rename_i h0; subst h0; exact this
                · simpa using this
              intro g9 cap9 wy own hgrow hat hlt2
              have HWy := Lib.hid (HW.out.app hxe own hgrow hat)
              have f1 := HWy.out.1
              have f2 := HWy.out.2.1
              have f3 := HWy.out.2.2.1
              refine hK6 _ _ ?_
              clear hK6 K6 own hgrow hat hown HW hc6 hxe
              refine wpAny_take (i := 10) (oi := ⟨some 68, _, _, _, _, _⟩) (v := (.pointer (some ⟨q, 8, none⟩))) rfl (by kernel_rfl) (by kernel_rfl) (by kernel_rfl) (fun _ _ _ h => h) (Or.inl ⟨by rfl, fun w => by go_simp⟩) ?_
              refine wpAny_ready (rs := [11]) (by kernel_rfl) (by simp) ?_
              refine AllReady.cons rfl (fun K8 hK8 => ?_) AllReady.nil
              go_simp
              refine hK8 _ _ ?_
              clear hK8 K8
              refine wpAny_done (by kernel_rfl) ?_ _
              have HS := Lib.hid HWy.out.2.2.2
              clear HWy f1 f2 f3
              go_wp2_with fail
              go_meet
              exact ⟨g9, cap9, l ++ [notC x h2], by simp, by simp; omega, by
                have := HS.out.own.2
                rcases this with ⟨e, _⟩ | ⟨g', c', _, e, _, _, h1, h2, _⟩
                · cases e
                · injection e with _ _ e3
                  subst e3
                  exact h1, by
                have := HS.out.own.2
                rcases this with ⟨e, _⟩ | ⟨g', c', _, e, _, _, h1, h2, _⟩
                · cases e
                · injection e with _ _ e3
                  subst e3
                  exact h2, Lib.hid (fun y hy => by
                  rcases List.mem_append.1 hy with hy | hy
                  · exact HSU.out wd y hy (HTd.out.el y hy).1
                  · obtain rfl := List.mem_singleton.1 hy
                    exact notC_sz (by rw [← hx0]; exact HS1.out _ (List.getElem_mem hl0))), by
                have := HS.out
                simpa using this⟩
              --@end
        case rest =>
        clear HT HS1 HSU hx0 hc1 hc2 hl0 h4l
        clear x l g cap
        obtain ⟨g, cap, l, hl0, h5l, hc1, hc2, HS1, hT⟩ := hcut
        have HT := Lib.hid hT
        clear hT
        have y0 := HT.out.bx.cell 0 _ rfl
        have y1 := HT.out.bx.cell 1 _ rfl
        have y2 := HT.out.bx.cell 2 _ rfl
        have y3 := HT.out.bx.cell 3 _ rfl
        have y4 := HT.out.bx.cell 4 _ rfl
        have y5 := HT.out.bx.cell 5 _ rfl
        have y6 := HT.out.bx.cell 6 _ rfl
        have y7 := HT.out.bx.cell 7 _ rfl
        have y8 := HT.out.bx.cell 8 _ rfl
        have yl := HT.out.bx.lt
        go_wp2_with (refine wpList_store_oc _ rfl _ _ _ rfl q0 _ [.int .i64 kind, .string ⟨#[]⟩, .string ⟨#[]⟩, .string ⟨#[]⟩, .slice none 0 0, .slice none 0 0, .int .i64 0, .int .i64 0, .slice (some ⟨g, 0, none⟩) l.length cap] _ rfl rfl HT.out.mkk.ob sizeCond rfl rfl ?_)
        intro wz oz kz
        have r0 := oz.cell 0 _ rfl
        have r1 := oz.cell 1 _ rfl
        have r2 := oz.cell 2 _ rfl
        have r3 := oz.cell 3 _ rfl
        have r4 := oz.cell 4 _ rfl
        have r5 := oz.cell 5 _ rfl
        have r6 := oz.cell 6 _ rfl
        have r7 := oz.cell 7 _ rfl
        have r8 := oz.cell 8 _ rfl
        have HOz := Lib.hid oz
        have HKz := Lib.hid kz
        clear oz kz y0 y1 y2 y3 y4 y5 y6 y7 y8 yl
        go_wp2_with fail
        refine bodyPost_ret (v := .agg #[.int .i64 kind, .string ⟨#[]⟩, .string ⟨#[]⟩, .string ⟨#[]⟩, .slice none 0 0, .slice none 0 0, .int .i64 0, .int .i64 0, .slice (some ⟨g, 0, none⟩) l.length cap]) (by simp [results, Tryz.results25, go_sem, r0, r1, r2, r3, r4, r5, r6, r7, r8]) rfl ?_
        have e1 : 2 * (n + 1) + 1 = D + 1 + 1 := by rw [← HDD.out]; omega
        have e2 : kcC (n + 1) = 3 * kn + 5 := by rw [← HKN.out]; rfl
        have e3 : mcC (n + 1) = 5 * mn + 6 := by rw [← HMN.out]; rfl
        rw [e1, e2, e3]
        exact HT.out.gen (M1 := mn + 1) (by unfold i64B; omega) hc1 hc2 (le_wdM (by omega)) HKz.out HOz.out (by have := HK1L.out; omega) HS1.out (by have := Nat.mul_le_mul_right (mn + 1) h5l; omega)
theorem cond_any : ∀ (n : Nat) (S : SC) (dp : Int), n ≤ 3 → dp = n → ∀ (K : Nat) (w : World), Strm w S K → K + kcC n ≤ 9000 → Calls Tryz.prog 25 #[S.p, .int .i64 dp] w (GenC S (K + kcC n) w (2 * n + 1) (mcC n))
  | 0, S, dp, _, h, K, w, hs, hK => by
    obtain rfl : dp = 0 := h
    exact cond_zero S K w hs (by omega)
  | n + 1, S, dp, hn, h, K, w, hs, hK => cond_succ S n (by omega) (fun dp h K w hs hK => cond_any n S dp (by omega) h K w hs hK) dp h K w hs hK
end Go.Proofs.YtfdpfkdfglombaaGreatDoor
/- Cells stored side by side into a row of one's own. -/
set_option linter.unusedVariables false
namespace Go.Proofs.YtfdpfkdfglombaaGreatDoor
open Go.RowKit

/-- vs written over xs from place o on -/
def setLC (xs : List Value) : Nat → List Value → List Value
  | _, [] => xs
  | o, v :: r => setLC (xs.set o v) (o + 1) r
theorem setL_getC : ∀ (vs xs : List Value) (o i : Nat), o + vs.length ≤ xs.length → (setLC xs o vs)[i]? = if i < o then xs[i]? else if i < o + vs.length then vs[i - o]? else xs[i]? := fun vs => by
  induction vs with
  | nil =>
    intro xs o i h
    simp only [setLC, List.length_nil, Nat.add_zero]
    split
    · rfl
    · rfl
  | cons v r ih =>
    intro xs o i h
    simp only [List.length_cons] at h ⊢
    simp only [setLC]
    rw [ih (xs.set o v) (o + 1) i (by rw [List.length_set]; omega)]
    simp only [List.getElem?_set]
    by_cases h1 : i < o
    · rw [if_pos (by omega), if_pos h1, if_neg (by omega)]
    · rw [if_neg h1]
      by_cases h2 : i = o
      · subst h2
        rw [if_pos (by omega), if_pos rfl, if_pos (by omega), if_pos (by omega)]
        simp
      · rw [if_neg (by omega)]
        obtain ⟨k, hk⟩ : ∃ k, i - o = k + 1 := ⟨i - o - 1, by omega⟩
        by_cases h3 : i < o + 1 + r.length
        · rw [if_pos h3, if_pos (by omega), hk, List.getElem?_cons_succ]
          congr 1
          omega
        · rw [if_neg h3, if_neg (by omega : ¬ i < o + (r.length + 1)), if_neg (by omega : ¬ o = i)]
theorem setL_lenC : ∀ (vs xs : List Value) (o : Nat), (setLC xs o vs).length = xs.length := fun vs => by
  induction vs with
  | nil => intros; rfl
  | cons v r ih => intro xs o; simp only [setLC]; rw [ih, List.length_set]
theorem setL_midC (A B C vs : List Value) (h : vs.length = B.length) : setLC (A ++ (B ++ C)) A.length vs = A ++ (vs ++ C) := by
  apply List.ext_getElem?
  intro i
  have eA : ∀ X : List Value, (A ++ X)[i]? = if i < A.length then A[i]? else X[i - A.length]? := fun X => by rw [List.getElem?_append]
  have eB : (B ++ C)[i - A.length]? = if i - A.length < B.length then B[i - A.length]? else C[i - A.length - B.length]? := by rw [List.getElem?_append]
  have eV : (vs ++ C)[i - A.length]? = if i - A.length < vs.length then vs[i - A.length]? else C[i - A.length - vs.length]? := by rw [List.getElem?_append]
  rw [setL_getC _ _ _ _ (by simp; omega), eA, eA, eB, eV]
  by_cases h1 : i < A.length
  · rw [if_pos h1, if_pos h1, if_pos h1]
  · rw [if_neg h1, if_neg h1, if_neg h1]
    by_cases h2 : i < A.length + vs.length
    · rw [if_pos h2, if_pos (by omega)]
    · rw [if_neg h2, if_neg (by omega), if_neg (by omega), h]
theorem setL_takeC (xs vs : List Value) (o : Nat) (h : o + vs.length ≤ xs.length) : (setLC xs o vs).take o = xs.take o := by
  apply List.ext_getElem?
  intro i
  rw [List.getElem?_take, List.getElem?_take]
  split
  · rename_i hi
    rw [setL_getC _ _ _ _ h, if_pos hi]
  · rfl
theorem fm_lenC {α : Type} (f : α → List Value) (K : Nat) : ∀ (l : List α), (∀ x ∈ l, (f x).length = K) → (l.flatMap f).length = l.length * K
  | [], _ => by simp
  | x :: l, h => by
    rw [List.flatMap_cons, List.length_append, fm_lenC f K l (fun y hy => h y (by simp [hy])), h x (by simp), List.length_cons, Nat.add_mul]
    omega
theorem fm_setLC {α : Type} (f : α → List Value) (K : Nat) (l : List α) (i : Nat) (x : α) (hi : i < l.length) (h : ∀ x ∈ l, (f x).length = K) (hx : (f x).length = K) : setLC (l.flatMap f) (i * K) (f x) = (l.set i x).flatMap f := by
  have e0 : l = l.take i ++ (l[i] :: l.drop (i + 1)) := by rw [List.getElem_cons_drop, List.take_append_drop]
  have e1 : l.flatMap f = (l.take i).flatMap f ++ (f l[i] ++ (l.drop (i + 1)).flatMap f) := by
    conv => lhs; rw [e0]
    rw [List.flatMap_append, List.flatMap_cons]
  have e2 : (l.set i x).flatMap f = (l.take i).flatMap f ++ (f x ++ (l.drop (i + 1)).flatMap f) := by
    rw [List.set_eq_take_append_cons_drop, if_pos hi, List.flatMap_append, List.flatMap_cons]
  have e3 : ((l.take i).flatMap f).length = i * K := by
    rw [fm_lenC f K _ (fun y hy => h y (List.mem_of_mem_take hy)), List.length_take, Nat.min_eq_left (by omega)]
  rw [e1, e2, ← e3]
  exact setL_midC _ _ _ _ (by rw [hx, h _ (List.getElem_mem hi)])
theorem fmK_takeC {α : Type} (f : α → List Value) (K : Nat) (l : List α) (m : Nat) (h : ∀ x ∈ l, (f x).length = K) (hm : m ≤ l.length) : (l.flatMap f).take (m * K) = (l.take m).flatMap f := by
  have e3 : ((l.take m).flatMap f).length = m * K := by
    rw [fm_lenC f K _ (fun y hy => h y (List.mem_of_mem_take hy)), List.length_take, Nat.min_eq_left (by omega)]
  have e1 : l.flatMap f = (l.take m).flatMap f ++ (l.drop m).flatMap f := by rw [← List.flatMap_append, List.take_append_drop]
  rw [e1, ← e3, List.take_left']
  rfl

theorem own_setsC {w : World} {base g size cap n : Nat} {e : TypeId} {xs : List Value} (vs : List Value) (o : Nat) (h : w.ownsRow base e size (.slice (some ⟨g, 0, none⟩) n cap) n xs) :
    (w.setCells g o vs).ownsRow base e size (.slice (some ⟨g, 0, none⟩) n cap) n (setLC xs o vs) ∧ w.grownBy (w.setCells g o vs) (some g) := by
  induction vs generalizing w xs o with
  | nil => exact ⟨h, ⟨rfl, rfl, rfl, Nat.le_refl _, fun _ _ _ => rfl⟩⟩
  | cons v r ih =>
    obtain ⟨h1, g1⟩ := h.stored o v
    obtain ⟨h2, g2⟩ := ih (o + 1) h1
    exact ⟨h2, grown_trans g1 g2⟩
theorem own_takeC {w : World} {base g size cap n : Nat} {e : TypeId} {xs : List Value} (m : Nat) (hm : m ≤ n) (h : w.ownsRow base e size (.slice (some ⟨g, 0, none⟩) n cap) n xs) :
    w.ownsRow base e size (.slice (some ⟨g, 0, none⟩) m cap) m (xs.take (m * size)) := by
  have hmul : m * size ≤ n * size := Nat.mul_le_mul_right _ hm
  rcases h.2 with ⟨h', _⟩ | ⟨g', cap', cur, h', hb, hg, hnc, hcm, hcs, htake⟩
  · simp at h'
  · simp only [Value.slice.injEq, Option.some.injEq, Addr.mk.injEq, and_true, true_and] at h'
    obtain ⟨rfl, rfl⟩ := h'
    refine ⟨by rw [List.length_take, h.1]; omega, .inr ⟨g, cap, cur, rfl, hb, hg, by omega, hcm, hcs, ?_⟩⟩
    rw [← htake, List.take_take, Nat.min_eq_left hmul]
theorem own_thereC {w : World} {base g size cap n : Nat} {e : TypeId} {xs : List Value} (h : w.ownsRow base e size (.slice (some ⟨g, 0, none⟩) n cap) n xs) (o k : Nat) (hk : o + k ≤ n * size) : w.there g o k := fun j hj => by
  refine ⟨?_, h.frozenAt _⟩
  rw [h.cellAt _ (by omega), List.getElem?_eq_getElem (by rw [h.1]; omega)]
  rfl

end Go.Proofs.YtfdpfkdfglombaaGreatDoor
/- slices.Clone at the lists of a condition (printed by gen_clc.py). -/
set_option linter.unusedVariables false
namespace Go.Proofs.YtfdpfkdfglombaaGreatDoor
open Go.RowKit

theorem RAt.flatC {α : Type} {w : World} {ad : Addr} {C : Nat} {f : α → List Value} {l : List α} (h : RAt w (some ad) C f l) (hf : ∀ x ∈ l, (f x).length = C) (hC : 0 < C) :
    ∀ j u, (l.flatMap f)[j]? = some u → w.cell? (ad.add j) = some u := by
  intro j u hu
  have hlen := fm_length C f l hf
  have hj : j < l.length * C := by
    have := (List.getElem?_eq_some_iff.1 hu).1
    omega
  have hjC : j / C < l.length := Nat.div_lt_of_lt_mul (by rw [Nat.mul_comm]; exact hj)
  have hm := Nat.mod_lt j hC
  have he : j / C * C + j % C = j := by rw [Nat.mul_comm]; exact Nat.div_add_mod j C
  have hg := fm_get C f l hf (j / C) (j % C) hjC hm
  rw [he, hu] at hg
  obtain ⟨p, off, ha, -, hc⟩ := h (j / C) hjC
  injection ha with ha
  subst ha
  have := hc (j % C) u hg.symm
  rw [Nat.add_assoc, he] at this
  unfold Addr.add
  split
  · rename_i h0
    subst h0
    exact this
  · exact this
theorem one_Vl (l : List Vl) : ∀ u ∈ l.flatMap Vl.cells, u.oneCell' = true := by
  intro u hu
  obtain ⟨x, -, hx⟩ := List.mem_flatMap.1 hu
  simp only [Vl.cells, List.mem_cons, List.mem_nil_iff, or_false] at hx
  rcases hx with rfl | rfl | rfl <;> rfl
set_option maxHeartbeats 2000000 in
theorem cloneVl_any (a : Option Addr) (l : List Vl) (n c : Nat) (w : World) (hn : l.length = n) (hn1 : n ≤ 1000) (hI : RAt w a 3 Vl.cells l) :
    Calls Tryz.prog 71 #[.slice a n c] w fun e w' => ∃ v', e = .returned v' ∧ w'.ownsRow w.heap.size 72 3 v' n (l.flatMap Vl.cells) ∧ Below w.heap.size w w' := by
  obtain ⟨i0, hi, hz0, hz1, hz2⟩ := info_parts infoValue
  have heq := fun w a n c => Lib.run_eql_slice_nil (P := Tryz.prog) w 26 72 a n c 0 0 Tryz.underlying26
  cases a with
  | none =>
    have hl : l = [] := by
      cases l with
      | nil => rfl
      | cons x l =>
        obtain ⟨p, off, h, -⟩ := hI 0 (by simp)
        cases h
    subst hl
    obtain rfl : n = 0 := hn.symm
    go_enter Tryz.func71, Tryz.ntmps71
    go_wp2
    go_ret
    exact ⟨_, rfl, World.ownsRow_nil _ _ _ _, Below.refl _ _⟩
  | some ad =>
    have hfl := Lib.hid (RAt.flatC (hI.alloc (.cells #[] 72)) (fun x _ => x.len) (by omega))
    have hlen := Lib.hid (fm_length 3 Vl.cells l (fun x _ => x.len))
    rw [hn] at hlen
    have hone := Lib.hid (one_Vl l)
    have hown := World.ownsRow_made (base := w.heap.size) (e := 72) (size := 3) w #[] 0 (Nat.le_refl _) (by unfold maxLen; omega) rfl
    have HB := Lib.hid ((Below.refl w.heap.size w).alloc (Nat.le_refl _) (.cells #[] 72))
    clear hn hI
    go_enter Tryz.func71, Tryz.ntmps71
    go_wp2_with (at_builtin; refine wpList_append_own _ rfl _ _ 26 rfl w.heap.size 72 i0 _ 3 32 Tryz.underlying26 hi hz0 hz1 hz2 rfl (by decide) _ _ _ rfl hown ad n c (l.flatMap Vl.cells) rfl hlen.out hfl.out hone.out ?c3 ?c4 ?c5 ?_)
    case c3 => unfold maxLen; omega
    case c4 => omega
    case c5 => simp
    intro v2 w6 own6 hgrow6 hne6
    have HOW : Hid (w6.ownsRow w.heap.size 72 3 v2 n (l.flatMap Vl.cells)) := Lib.hid (by simpa using own6)
    have HB6 := Lib.hid (HB.out.grown hgrow6 (by simp) (fun k hk => (hown.lt k hk).1))
    clear own6 hgrow6 hne6 hown
    go_wp2_with fail
    go_ret
    exact ⟨_, rfl, HOW.out, HB6.out⟩
theorem one_Wh (l : List Wh) : ∀ u ∈ l.flatMap Wh.cells, u.oneCell' = true := by
  intro u hu
  obtain ⟨x, -, hx⟩ := List.mem_flatMap.1 hu
  simp only [Wh.cells, List.mem_cons, List.mem_nil_iff, or_false] at hx
  rcases hx with rfl | rfl | rfl | rfl | rfl <;> rfl
set_option maxHeartbeats 2000000 in
theorem cloneWh_any (a : Option Addr) (l : List Wh) (n c : Nat) (w : World) (hn : l.length = n) (hn1 : n ≤ 1000) (hI : RAt w a 5 Wh.cells l) :
    Calls Tryz.prog 72 #[.slice a n c] w fun e w' => ∃ v', e = .returned v' ∧ w'.ownsRow w.heap.size 98 5 v' n (l.flatMap Wh.cells) ∧ Below w.heap.size w w' := by
  obtain ⟨i0, hi, hz0, hz1, hz2⟩ := info_parts infoWhere
  have heq := fun w a n c => Lib.run_eql_slice_nil (P := Tryz.prog) w 27 98 a n c 0 0 Tryz.underlying27
  cases a with
  | none =>
    have hl : l = [] := by
      cases l with
      | nil => rfl
      | cons x l =>
        obtain ⟨p, off, h, -⟩ := hI 0 (by simp)
        cases h
    subst hl
    obtain rfl : n = 0 := hn.symm
    go_enter Tryz.func72, Tryz.ntmps72
    go_wp2
    go_ret
    exact ⟨_, rfl, World.ownsRow_nil _ _ _ _, Below.refl _ _⟩
  | some ad =>
    have hfl := Lib.hid (RAt.flatC (hI.alloc (.cells #[] 98)) (fun x _ => x.len) (by omega))
    have hlen := Lib.hid (fm_length 5 Wh.cells l (fun x _ => x.len))
    rw [hn] at hlen
    have hone := Lib.hid (one_Wh l)
    have hown := World.ownsRow_made (base := w.heap.size) (e := 98) (size := 5) w #[] 0 (Nat.le_refl _) (by unfold maxLen; omega) rfl
    have HB := Lib.hid ((Below.refl w.heap.size w).alloc (Nat.le_refl _) (.cells #[] 98))
    clear hn hI
    go_enter Tryz.func72, Tryz.ntmps72
    go_wp2_with (at_builtin; refine wpList_append_own _ rfl _ _ 27 rfl w.heap.size 98 i0 _ 5 64 Tryz.underlying27 hi hz0 hz1 hz2 rfl (by decide) _ _ _ rfl hown ad n c (l.flatMap Wh.cells) rfl hlen.out hfl.out hone.out ?c3 ?c4 ?c5 ?_)
    case c3 => unfold maxLen; omega
    case c4 => omega
    case c5 => simp
    intro v2 w6 own6 hgrow6 hne6
    have HOW : Hid (w6.ownsRow w.heap.size 98 5 v2 n (l.flatMap Wh.cells)) := Lib.hid (by simpa using own6)
    have HB6 := Lib.hid (HB.out.grown hgrow6 (by simp) (fun k hk => (hown.lt k hk).1))
    clear own6 hgrow6 hne6 hown
    go_wp2_with fail
    go_ret
    exact ⟨_, rfl, HOW.out, HB6.out⟩
theorem one_Cn (l : List Cn) : ∀ u ∈ l.flatMap Cn.cells, u.oneCell' = true := by
  intro u hu
  obtain ⟨x, -, hx⟩ := List.mem_flatMap.1 hu
  simp only [Cn.cells, List.mem_cons, List.mem_nil_iff, or_false] at hx
  rcases hx with rfl | rfl | rfl | rfl | rfl | rfl | rfl | rfl | rfl <;> rfl
set_option maxHeartbeats 2000000 in
theorem cloneCn_any (a : Option Addr) (l : List Cn) (n c : Nat) (w : World) (hn : l.length = n) (hn1 : n ≤ 1000) (hI : RAt w a 9 Cn.cells l) :
    Calls Tryz.prog 69 #[.slice a n c] w fun e w' => ∃ v', e = .returned v' ∧ w'.ownsRow w.heap.size 30 9 v' n (l.flatMap Cn.cells) ∧ Below w.heap.size w w' := by
  obtain ⟨i0, hi, hz0, hz1, hz2⟩ := info_parts infoCond
  have heq := fun w a n c => Lib.run_eql_slice_nil (P := Tryz.prog) w 28 30 a n c 0 0 Tryz.underlying28
  cases a with
  | none =>
    have hl : l = [] := by
      cases l with
      | nil => rfl
      | cons x l =>
        obtain ⟨p, off, h, -⟩ := hI 0 (by simp)
        cases h
    subst hl
    obtain rfl : n = 0 := hn.symm
    go_enter Tryz.func69, Tryz.ntmps69
    go_wp2
    go_ret
    exact ⟨_, rfl, World.ownsRow_nil _ _ _ _, Below.refl _ _⟩
  | some ad =>
    have hfl := Lib.hid (RAt.flatC (hI.alloc (.cells #[] 30)) (fun x _ => x.len) (by omega))
    have hlen := Lib.hid (fm_length 9 Cn.cells l (fun x _ => x.len))
    rw [hn] at hlen
    have hone := Lib.hid (one_Cn l)
    have hown := World.ownsRow_made (base := w.heap.size) (e := 30) (size := 9) w #[] 0 (Nat.le_refl _) (by unfold maxLen; omega) rfl
    have HB := Lib.hid ((Below.refl w.heap.size w).alloc (Nat.le_refl _) (.cells #[] 30))
    clear hn hI
    go_enter Tryz.func69, Tryz.ntmps69
    go_wp2_with (at_builtin; refine wpList_append_own _ rfl _ _ 28 rfl w.heap.size 30 i0 _ 9 144 Tryz.underlying28 hi hz0 hz1 hz2 rfl (by decide) _ _ _ rfl hown ad n c (l.flatMap Cn.cells) rfl hlen.out hfl.out hone.out ?c3 ?c4 ?c5 ?_)
    case c3 => unfold maxLen; omega
    case c4 => omega
    case c5 => simp
    intro v2 w6 own6 hgrow6 hne6
    have HOW : Hid (w6.ownsRow w.heap.size 30 9 v2 n (l.flatMap Cn.cells)) := Lib.hid (by simpa using own6)
    have HB6 := Lib.hid (HB.out.grown hgrow6 (by simp) (fun k hk => (hown.lt k hk).1))
    clear own6 hgrow6 hne6 hown
    go_wp2_with fail
    go_ret
    exact ⟨_, rfl, HOW.out, HB6.out⟩
end Go.Proofs.YtfdpfkdfglombaaGreatDoor
/- A condition that is being spoiled: its box, the box of the result, and what it keeps far from. -/
set_option linter.unusedVariables false
namespace Go.Proofs.YtfdpfkdfglombaaGreatDoor
open Go.RowKit

/-- what the spoiler of a condition leaves: it shares what the condition shared, and no more -/
def GenSp (S : SC) (K : Nat) (w : World) (d0 : Nat) (c0 : Cn) (d M : Nat) (e : Ending) (w' : World) : Prop :=
  ∃ c : Cn, e = .returned (.agg c.cells.toArray) ∧ TAt d w' c ∧ (∀ g, g < w.heap.size → FarT d0 c0 g → FarT d c g) ∧ szN d c ≤ M ∧ w.grownBy w' (some S.g) ∧ Strm w' S K
/-- the lists of two nodes are the same -/
def sameL (a b : Nd) : Prop := a.va = b.va ∧ a.vals = b.vals ∧ a.wa = b.wa ∧ a.whs = b.whs ∧ a.aa = b.aa ∧ a.ac = b.ac
theorem TAt.sc {d : Nat} {w : World} {n n' : Nd} {args : List Cn} (h : TAt d w (.mk n args)) (e : sameL n n') (hok : n'.ok) : TAt d w (.mk n' args) := by
  cases d with
  | zero => exact h.elim
  | succ d =>
    obtain ⟨_, h2, h3, h4, h5, h6⟩ := h
    obtain ⟨e1, e2, e3, e4, e5, e6⟩ := e
    simp only [Cn.nd, Cn.args] at h2 h3 h4 h5 h6
    rw [e6] at h2
    rw [e1, e2] at h3
    rw [e3, e4] at h4
    rw [e5] at h5
    exact ⟨hok, h2, h3, h4, h5, h6⟩
theorem FarT.sc {d g : Nat} {n n' : Nd} {args : List Cn} (h : FarT d (.mk n args) g) (e : sameL n n') : FarT d (.mk n' args) g := by
  cases d with
  | zero => trivial
  | succ d =>
    obtain ⟨h1, h2, h3, h4⟩ := h
    obtain ⟨e1, e2, e3, e4, e5, e6⟩ := e
    simp only [Cn.nd, Cn.args] at h1 h2 h3 h4
    rw [e1, e2] at h1
    rw [e3, e4] at h2
    rw [e5] at h3
    exact ⟨h1, h2, h3, h4⟩
theorem szN_sc {d : Nat} {n n' : Nd} {args : List Cn} : szN d (.mk n' args) = szN d (.mk n args) := by
  cases d <;> rfl
/-- a condition in a variable of its own at q3; the result goes to q4 -/
structure Sb (w : World) (S : SC) (q3 q4 : Nat) (d0 : Nat) (c0 : Cn) (d : Nat) (c : Cn) (K : Nat) (wr : World) : Prop where
  mkk : Mk w S q4 condZ 30 K wr
  bx : OB wr q3 c.cells 30
  lo : w.heap.size ≤ q3
  lt : q3 < q4
  tr : TAt d wr c
  f3 : FarT d c q3
  f4 : FarT d c q4
  fo : ∀ g, g < w.heap.size → FarT d0 c0 g → FarT d c g
  fs : FarT d c S.g
  sl : S.g < w.heap.size
section
variable {w wr w' : World} {S : SC} {q3 q4 d0 d d' K K' M : Nat} {c0 c c' : Cn}
theorem Sb.draw (h : Sb w S q3 q4 d0 c0 d c K wr) (k : wr.grownBy w' (some S.g)) (s : Strm w' S K') : Sb w S q3 q4 d0 c0 d c K' w' := by
  have h1 := h.sl
  have h2 := h.lo
  exact ⟨h.mkk.draw k s, h.bx.grown k (fun e => by have := Option.some.inj e; omega), h.lo, h.lt, h.tr.kept k (fun g e => by obtain rfl := Option.some.inj e; exact h.fs), h.f3, h.f4, h.fo, h.fs, h.sl⟩
theorem Sb.mono (h : Sb w S q3 q4 d0 c0 d c K wr) (hK : K ≤ K') : Sb w S q3 q4 d0 c0 d c K' wr := h.draw ⟨rfl, rfl, rfl, Nat.le_refl _, fun _ _ _ => rfl⟩ (strm_mono h.mkk.st hK)
theorem Sb.alloc (h : Sb w S q3 q4 d0 c0 d c K wr) (o : Obj) : Sb w S q3 q4 d0 c0 d c K (wr.alloc o) := h.draw (World.grownBy_alloc _ _ _) (strm_alloc h.mkk.st _)
theorem Sb.up (h : Sb w S q3 q4 d0 c0 d c K wr) (hd : d ≤ d') : Sb w S q3 q4 d0 c0 d' c K wr :=
  ⟨h.mkk, h.bx, h.lo, h.lt, h.tr.mono hd, FarT.mono hd h.tr h.f3, FarT.mono hd h.tr h.f4, fun g hg hf => FarT.mono hd h.tr (h.fo g hg hf), FarT.mono hd h.tr h.fs, h.sl⟩
theorem Sb.write (h : Sb w S q3 q4 d0 c0 d c K wr) (o : OB w' q3 c'.cells 30) (k : wr.grownBy w' (some q3)) (ht : TAt d' w' c') (f3 : FarT d' c' q3) (f4 : FarT d' c' q4) (fo : ∀ g, g < w.heap.size → FarT d0 c0 g → FarT d' c' g) (fs : FarT d' c' S.g) : Sb w S q3 q4 d0 c0 d' c' K w' := by
  have h1 := h.sl
  have h2 := h.lo
  have h3 := h.lt
  exact ⟨⟨h.mkk.ob.grown k (fun e => by have := Option.some.inj e; omega), strm_own h.mkk.st k (fun b hb => by have := Option.some.inj hb; omega), grown_own h.mkk.gr k (fun b hb => by have := Option.some.inj hb; omega), h.mkk.lo, h.mkk.sg⟩, o, h.lo, h.lt, ht, f3, f4, fo, fs, h.sl⟩
/-- one of its plain parts is changed -/
theorem Sb.scal {n n' : Nd} {args : List Cn} (h : Sb w S q3 q4 d0 c0 d (.mk n args) K wr) (i : Nat) (u : Value) (e : sameL n n') (hok : n'.ok) (hc : (Cn.mk n' args).cells = (Cn.mk n args).cells.set i u) : Sb w S q3 q4 d0 c0 d (.mk n' args) K (wr.setCell ⟨q3, i, none⟩ u) := by
  have k : wr.grownBy (wr.setCell ⟨q3, i, none⟩ u) (some q3) := ⟨rfl, rfl, rfl, by simp [World.setCell], fun j _ hne => Below.heap_setCell wr _ _ j (by rintro rfl; exact hne rfl)⟩
  exact h.write (h.bx.put i u hc) k ((h.tr.kept k (fun g e => by obtain rfl := Option.some.inj e; exact h.f3)).sc e hok) (h.f3.sc e) (h.f4.sc e) (fun g hg hf => (h.fo g hg hf).sc e) (h.fs.sc e)
theorem Sb.gen {w9 : World} (h : Sb w S q3 q4 d0 c0 d c K wr) (k9 : wr.grownBy w9 (some q4)) (o9 : OB w9 q4 c.cells 30) (hK : K ≤ K') (hM : szN d c ≤ M) : GenSp S K' w d0 c0 d M (.returned (.agg c.cells.toArray)) w9 := by
  have hm := h.mkk.write o9 k9
  exact ⟨c, rfl, h.tr.kept k9 (fun g e => by obtain rfl := Option.some.inj e; exact h.f4), h.fo, hM, hm.gr, strm_mono hm.st hK⟩
theorem Sb.new (hT : TAt d w c) (hf : FarT d c S.g) (s : Strm w S K) : Sb w S w.heap.size (w.heap.size + 1) d c d c K ((w.alloc (.cells c.cells.toArray 30)).alloc (.cells condZ.toArray 30)) := by
  have e : (w.alloc (.cells c.cells.toArray 30)).heap.size = w.heap.size + 1 := World.size_alloc _ _
  have hm := Mk.new (strm_alloc s (.cells c.cells.toArray 30)) condZ 30
  rw [e] at hm
  exact ⟨⟨hm.ob, hm.st, grown_trans (World.grownBy_alloc _ _ _) hm.gr, by omega, hm.sg⟩, (OB.new w c.cells 30).alloc _, Nat.le_refl _, Nat.lt_succ_self _, (hT.alloc _).alloc _, hT.newFar (Nat.le_refl _), hT.newFar (by omega), fun g _ h => h, hf, strm_lt s⟩
/-- a new list of values -/
theorem Sb.vals {n : Nd} {args : List Cn} {a : Option Addr} {cap : Nat} {l : List Vl} (h : Sb w S q3 q4 d0 c0 d (.mk n args) K wr) (hR : RAt (wr.setCell ⟨q3, 4, none⟩ (.slice a l.length cap)) a 3 Vl.cells l) (hfar : ∀ p off, a = some ⟨p, off, none⟩ → q4 < p) (hl : l.length ≤ cap ∧ cap ≤ maxLen ∧ l.length ≤ 10) (ho : ∀ v ∈ l, v.ok) :
    Sb w S q3 q4 d0 c0 d (.mk { n with va := a, vc := cap, vals := l } args) K (wr.setCell ⟨q3, 4, none⟩ (.slice a l.length cap)) := by
  have h1 := h.sl
  have h2 := h.lo
  have h3 := h.lt
  have k : wr.grownBy (wr.setCell ⟨q3, 4, none⟩ (.slice a l.length cap)) (some q3) := ⟨rfl, rfl, rfl, by simp [World.setCell], fun j _ hne => Below.heap_setCell wr _ _ j (by rintro rfl; exact hne rfl)⟩
  have hF : ∀ g, g ≤ q4 → Far a l.length g := fun g hg _ p off e => by have := hfar p off e; omega
  have hT := h.tr.kept k (fun g e => by obtain rfl := Option.some.inj e; exact h.f3)
  have FF : ∀ g, g ≤ q4 → FarT d (.mk n args) g → FarT d (.mk { n with va := a, vc := cap, vals := l } args) g := fun g hg hf => by
    cases d with
    | zero => trivial
    | succ d => exact ⟨hF g hg, hf.2⟩
  refine h.write (h.bx.put 4 _ rfl) k ?_ (FF _ (by omega) h.f3) (FF _ (Nat.le_refl _) h.f4) (fun g hg hf => FF g (by omega) (h.fo g hg hf)) (FF _ (by omega) h.fs)
  cases d with
  | zero => exact hT.elim
  | succ d =>
    obtain ⟨⟨o1, o2, o3, o4, o5, o6, o7, o8, o9, o10⟩, t2, t3, t4, t5, t6⟩ := hT
    exact ⟨⟨o1, o2, o3, o4, hl, o6, o7, o8, ho, o10⟩, t2, hR, t4, t5, t6⟩
/-- a new list of comparisons -/
theorem Sb.whs {n : Nd} {args : List Cn} {a : Option Addr} {cap : Nat} {l : List Wh} (h : Sb w S q3 q4 d0 c0 d (.mk n args) K wr) (hR : RAt (wr.setCell ⟨q3, 5, none⟩ (.slice a l.length cap)) a 5 Wh.cells l) (hfar : ∀ p off, a = some ⟨p, off, none⟩ → q4 < p) (hl : l.length ≤ cap ∧ cap ≤ maxLen ∧ l.length ≤ 1000) (ho : ∀ v ∈ l, v.ok) :
    Sb w S q3 q4 d0 c0 d (.mk { n with wa := a, wc := cap, whs := l } args) K (wr.setCell ⟨q3, 5, none⟩ (.slice a l.length cap)) := by
  have h1 := h.sl
  have h2 := h.lo
  have h3 := h.lt
  have k : wr.grownBy (wr.setCell ⟨q3, 5, none⟩ (.slice a l.length cap)) (some q3) := ⟨rfl, rfl, rfl, by simp [World.setCell], fun j _ hne => Below.heap_setCell wr _ _ j (by rintro rfl; exact hne rfl)⟩
  have hF : ∀ g, g ≤ q4 → Far a l.length g := fun g hg _ p off e => by have := hfar p off e; omega
  have hT := h.tr.kept k (fun g e => by obtain rfl := Option.some.inj e; exact h.f3)
  have FF : ∀ g, g ≤ q4 → FarT d (.mk n args) g → FarT d (.mk { n with wa := a, wc := cap, whs := l } args) g := fun g hg hf => by
    cases d with
    | zero => trivial
    | succ d => exact ⟨hf.1, hF g hg, hf.2.2⟩
  refine h.write (h.bx.put 5 _ rfl) k ?_ (FF _ (by omega) h.f3) (FF _ (Nat.le_refl _) h.f4) (fun g hg hf => FF g (by omega) (h.fo g hg hf)) (FF _ (by omega) h.fs)
  cases d with
  | zero => exact hT.elim
  | succ d =>
    obtain ⟨⟨o1, o2, o3, o4, o5, o6, o7, o8, o9, o10⟩, t2, t3, t4, t5, t6⟩ := hT
    exact ⟨⟨o1, o2, o3, o4, o5, hl, o7, o8, o9, ho⟩, t2, t3, hR, t5, t6⟩
/-- what is not it -/
theorem Sb.wrap {h1 : Nat} (h : Sb w S q3 q4 d0 c0 d c K wr) (o1 : OB wr h1 c.cells 30) (hq : q4 < h1) (o : OB w' q3 (notC c h1).cells 30) (k : wr.grownBy w' (some q3)) : Sb w S q3 q4 d0 c0 (d + 1) (notC c h1) K w' := by
  have e1 := h.sl
  have e2 := h.lo
  have e3 := h.lt
  have FF : ∀ g, g ≤ q4 → FarT d c g → FarT (d + 1) (notC c h1) g := fun g hg hf =>
    ⟨fun h => absurd h (by simp [notC, Cn.nd]), fun h => absurd h (by simp [notC, Cn.nd]), fun _ p off e => by
      have e1 : h1 = p := by simp only [notC, Cn.nd] at e; injection e with e; injection e
      omega, fun y hy => by obtain rfl := List.mem_singleton.1 hy; exact hf⟩
  refine h.write o k ⟨nd_okZ (by unfold i64B; decide), ⟨Nat.le_refl _, (by unfold maxLen; omega : 1 ≤ maxLen), (by decide : 1 ≤ wdM)⟩, RAt.nil _ _ _ _, RAt.nil _ _ _ _, one_cond (o1.grown k (fun e => by have := Option.some.inj e; omega)), fun y hy => ?_⟩ (FF _ (by omega) h.f3) (FF _ (Nat.le_refl _) h.f4) (fun g hg hf => FF g (by omega) (h.fo g hg hf)) (FF _ (by omega) h.fs)
  obtain rfl := List.mem_singleton.1 hy
  exact h.tr.kept k (fun g e => by obtain rfl := Option.some.inj e; exact h.f3)
end
theorem notC_szN (d h : Nat) (x : Cn) : szN (d + 1) (notC x h) = 1 + szN d x := by
  show 1 + ([x].map (szN d)).sum = _
  simp
theorem sum_set_le : ∀ (l : List Nat) (k y : Nat), (l.set k y).sum ≤ l.sum + y
  | [], k, y => by simp
  | x :: r, 0, y => by simp only [List.set_cons_zero, List.sum_cons]; omega
  | x :: r, k + 1, y => by
    have := sum_set_le r k y
    simp only [List.set_cons_succ, List.sum_cons]
    omega
end Go.Proofs.YtfdpfkdfglombaaGreatDoor
/- A condition that is being spoiled, and a list of its own that a copy was made of. -/
set_option linter.unusedVariables false
namespace Go.Proofs.YtfdpfkdfglombaaGreatDoor
open Go.RowKit

/-- a copy of one of its lists -/
structure SbL {α : Type} (w : World) (S : SC) (q3 q4 : Nat) (d0 : Nat) (c0 : Cn) (d : Nat) (c : Cn) (t : TypeId) (C : Nat) (f : α → List Value) (v : Value) (l : List α) (base K : Nat) (wr : World) : Prop where
  sb : Sb w S q3 q4 d0 c0 d c K wr
  own : wr.ownsRow base t C v l.length (l.flatMap f)
  hb : q4 < base
  far : ∀ g, base ≤ g → FarT d c g
  bs : base ≤ wr.heap.size
section
variable {α : Type} {w wr w' : World} {S : SC} {q3 q4 d0 d d' K K' M base C : Nat} {c0 c c' : Cn} {t : TypeId} {f : α → List Value} {v v2 : Value} {l : List α}
theorem Sb.own_grown {row : Option Nat} (h : Sb w S q3 q4 d0 c0 d c K wr) (k : wr.grownBy w' row) (hr : ∀ b, row = some b → q4 < b ∧ FarT d c b) : Sb w S q3 q4 d0 c0 d c K w' := by
  have h1 := h.sl
  have h2 := h.lo
  have h3 := h.lt
  refine ⟨⟨h.mkk.ob.grown k (fun e => by have := (hr _ e).1; omega), strm_own h.mkk.st k (fun b hb => by have := (hr b hb).1; omega), grown_own h.mkk.gr k (fun b hb => by have := (hr b hb).1; omega), h.mkk.lo, h.mkk.sg⟩, h.bx.grown k (fun e => by have := (hr _ e).1; omega), h.lo, h.lt, h.tr.kept k (fun g e => (hr g e).2), h.f3, h.f4, h.fo, h.fs, h.sl⟩
theorem Sb.clone (h : Sb w S q3 q4 d0 c0 d c K wr) (own : w'.ownsRow wr.heap.size t C v l.length (l.flatMap f)) (b : Below wr.heap.size wr w') : SbL w S q3 q4 d0 c0 d c t C f v l wr.heap.size K w' :=
  ⟨h.draw (grown_of_below b _) (strm_below h.mkk.st b), own, h.mkk.ob.lt, fun g hg => h.tr.newFar hg, b.size⟩
theorem SbL.draw (h : SbL w S q3 q4 d0 c0 d c t C f v l base K wr) (k : wr.grownBy w' (some S.g)) (s : Strm w' S K') : SbL w S q3 q4 d0 c0 d c t C f v l base K' w' := by
  have h1 := h.sb.sl
  have h2 := h.sb.lo
  have h3 := h.sb.lt
  have h4 := h.hb
  refine ⟨h.sb.draw k s, h.own.kept k ?_, h.hb, h.far, Nat.le_trans h.bs k.size⟩
  cases hv : v.ownBlock with
  | none => exact .inl rfl
  | some b => exact .inr (fun e => by have := (h.own.lt b hv).1; have := Option.some.inj e; omega)
theorem SbL.alloc (h : SbL w S q3 q4 d0 c0 d c t C f v l base K wr) (o : Obj) : SbL w S q3 q4 d0 c0 d c t C f v l base K (wr.alloc o) := h.draw (World.grownBy_alloc _ _ _) (strm_alloc h.sb.mkk.st _)
theorem TAt.ok1 {n : Nd} {args : List Cn} (h : TAt d w (.mk n args)) : n.ok := by
  cases d with
  | zero => exact h.elim
  | succ d => exact h.1
theorem SbL.vals {n : Nd} {args : List Cn} {x : Vl} (h : SbL w S q3 q4 d0 c0 d (.mk n args) 72 3 Vl.cells v n.vals base K wr) (hx : x.ok) (hlen : n.vals.length ≤ 9) (own : w'.ownsRow base 72 3 v2 (n.vals.length + 1) (n.vals.flatMap Vl.cells ++ x.cells)) (k : wr.grownBy w' v.ownBlock) :
    ∃ a cap, v2 = .slice a (n.vals.length + 1) cap ∧ w'.cell? ⟨q3, 4, none⟩ = some (.slice n.va n.vals.length n.vc) ∧ w'.frozen? ⟨q3, 4, none⟩ = false ∧ q3 < w'.heap.size ∧ Sb w S q3 q4 d0 c0 d (.mk { n with va := a, vc := cap, vals := n.vals ++ [x] } args) K (w'.setCell ⟨q3, 4, none⟩ (.slice a (n.vals.length + 1) cap)) := by
  have hb := h.hb
  have hl := h.sb.lt
  have h9 := h.sb.own_grown k (fun b e => ⟨by have := (h.own.lt b e).1; omega, h.far b (h.own.lt b e).1⟩)
  have e1 : (n.vals ++ [x]).length = n.vals.length + 1 := by simp
  have own' : w'.ownsRow base 72 3 v2 (n.vals ++ [x]).length ((n.vals ++ [x]).flatMap Vl.cells) := by simpa using own
  obtain ⟨a, cap, e2, hR, h1, h2⟩ := RAt.of_own own' (fun x _ => x.len)
  rw [e1] at e2 h1
  subst e2
  have hpa : ∀ p off, a = some ⟨p, off, none⟩ → base ≤ p := fun p off e => by
    subst e
    rcases own.2 with ⟨e, _⟩ | ⟨g', c', _, e, _⟩
    · cases e
    · injection e with e _ _
      injection e with e
      injection e with e e' _
      subst e e'
      exact (own.lt p rfl).1
  have kk : w'.grownBy (w'.setCell ⟨q3, 4, none⟩ (.slice a (n.vals.length + 1) cap)) (some q3) := ⟨rfl, rfl, rfl, by simp [World.setCell], fun j _ hne => Below.heap_setCell w' _ _ j (by rintro rfl; exact hne rfl)⟩
  refine ⟨a, cap, rfl, h9.bx.cell 4 _ rfl, h9.bx.free 4, h9.bx.lt, ?_⟩
  have r := h9.vals (a := a) (cap := cap) (l := n.vals ++ [x]) (by rw [e1]; exact hR.kept kk (fun g e _ p off e' => by obtain rfl := Option.some.inj e; have := hpa p off e'; omega)) (fun p off e => by have := hpa p off e; omega) ⟨by omega, h2, by omega⟩ (fun y hy => by
    rcases List.mem_append.1 hy with hy | hy
    · exact h9.tr.ok1.2.2.2.2.2.2.2.2.1 y hy
    · obtain rfl := List.mem_singleton.1 hy
      exact hx)
  rw [e1] at r
  exact r
theorem SbL.whs {n : Nd} {args : List Cn} {x : Wh} (h : SbL w S q3 q4 d0 c0 d (.mk n args) 98 5 Wh.cells v n.whs base K wr) (hx : x.ok) (hlen : n.whs.length ≤ 100) (own : w'.ownsRow base 98 5 v2 (n.whs.length + 1) (n.whs.flatMap Wh.cells ++ x.cells)) (k : wr.grownBy w' v.ownBlock) :
    ∃ a cap, v2 = .slice a (n.whs.length + 1) cap ∧ w'.cell? ⟨q3, 5, none⟩ = some (.slice n.wa n.whs.length n.wc) ∧ w'.frozen? ⟨q3, 5, none⟩ = false ∧ q3 < w'.heap.size ∧ Sb w S q3 q4 d0 c0 d (.mk { n with wa := a, wc := cap, whs := n.whs ++ [x] } args) K (w'.setCell ⟨q3, 5, none⟩ (.slice a (n.whs.length + 1) cap)) := by
  have hb := h.hb
  have hl := h.sb.lt
  have h9 := h.sb.own_grown k (fun b e => ⟨by have := (h.own.lt b e).1; omega, h.far b (h.own.lt b e).1⟩)
  have e1 : (n.whs ++ [x]).length = n.whs.length + 1 := by simp
  have own' : w'.ownsRow base 98 5 v2 (n.whs ++ [x]).length ((n.whs ++ [x]).flatMap Wh.cells) := by simpa using own
  obtain ⟨a, cap, e2, hR, h1, h2⟩ := RAt.of_own own' (fun x _ => x.len)
  rw [e1] at e2 h1
  subst e2
  have hpa : ∀ p off, a = some ⟨p, off, none⟩ → base ≤ p := fun p off e => by
    subst e
    rcases own.2 with ⟨e, _⟩ | ⟨g', c', _, e, _⟩
    · cases e
    · injection e with e _ _
      injection e with e
      injection e with e e' _
      subst e e'
      exact (own.lt p rfl).1
  have kk : w'.grownBy (w'.setCell ⟨q3, 5, none⟩ (.slice a (n.whs.length + 1) cap)) (some q3) := ⟨rfl, rfl, rfl, by simp [World.setCell], fun j _ hne => Below.heap_setCell w' _ _ j (by rintro rfl; exact hne rfl)⟩
  refine ⟨a, cap, rfl, h9.bx.cell 5 _ rfl, h9.bx.free 5, h9.bx.lt, ?_⟩
  have r := h9.whs (a := a) (cap := cap) (l := n.whs ++ [x]) (by rw [e1]; exact hR.kept kk (fun g e _ p off e' => by obtain rfl := Option.some.inj e; have := hpa p off e'; omega)) (fun p off e => by have := hpa p off e; omega) ⟨by omega, h2, by omega⟩ (fun y hy => by
    rcases List.mem_append.1 hy with hy | hy
    · exact h9.tr.ok1.2.2.2.2.2.2.2.2.2 y hy
    · obtain rfl := List.mem_singleton.1 hy
      exact hx)
  rw [e1] at r
  exact r
end
theorem own_rat {α : Type} {w : World} {b0 g C cap : Nat} {t : TypeId} {f : α → List Value} {l : List α} (h : w.ownsRow b0 t C (.slice (some ⟨g, 0, none⟩) l.length cap) l.length (l.flatMap f)) (hf : ∀ x ∈ l, (f x).length = C) : RAt w (some ⟨g, 0, none⟩) C f l := by
  obtain ⟨a, c, e, r, -⟩ := RAt.of_own h hf
  injection e with e
  subst e
  exact r
/-- its list of others is a copy -/
structure SbA (w : World) (S : SC) (q3 q4 : Nat) (d0 : Nat) (c0 : Cn) (d : Nat) (n : Nd) (args : List Cn) (base g K : Nat) (wr : World) : Prop where
  sb : Sb w S q3 q4 d0 c0 (d + 1) (.mk n args) K wr
  aa : n.aa = some ⟨g, 0, none⟩
  own : wr.ownsRow base 30 9 (.slice (some ⟨g, 0, none⟩) args.length n.ac) args.length (args.flatMap Cn.cells)
  hb : q4 < base
  far : Far n.va n.vals.length g ∧ Far n.wa n.whs.length g ∧ ∀ y ∈ args, FarT d y g
section
variable {w wr w' : World} {S : SC} {q3 q4 d0 d d' K K' base g : Nat} {c0 x' : Cn} {n : Nd} {args : List Cn} {v : Value}
theorem SbA.draw (h : SbA w S q3 q4 d0 c0 d n args base g K wr) (k : wr.grownBy w' (some S.g)) (s : Strm w' S K') : SbA w S q3 q4 d0 c0 d n args base g K' w' := by
  have h1 := h.sb.sl
  have h2 := h.sb.lo
  have h3 := h.sb.lt
  have h4 := h.hb
  refine ⟨h.sb.draw k s, h.aa, h.own.kept k (.inr (fun e => ?_)), h.hb, h.far⟩
  have := (h.own.lt g rfl).1
  have := Option.some.inj e
  simp only at this
  omega
theorem SbA.alloc (h : SbA w S q3 q4 d0 c0 d n args base g K wr) (o : Obj) : SbA w S q3 q4 d0 c0 d n args base g K (wr.alloc o) := h.draw (World.grownBy_alloc _ _ _) (strm_alloc h.sb.mkk.st _)
theorem SbA.mono (h : SbA w S q3 q4 d0 c0 d n args base g K wr) (hK : K ≤ K') : SbA w S q3 q4 d0 c0 d n args base g K' wr := h.draw ⟨rfl, rfl, rfl, Nat.le_refl _, fun _ _ _ => rfl⟩ (strm_mono h.sb.mkk.st hK)
theorem SbA.drew (h : SbA w S q3 q4 d0 c0 d n args base g K wr) : SbA w S q3 q4 d0 c0 d n args base g K wr.drew := h.draw ⟨rfl, rfl, rfl, Nat.le_refl _, fun _ _ _ => rfl⟩ (show Strm wr.drew S K from h.sb.mkk.st)
theorem SbL.kids (h : SbL w S q3 q4 d0 c0 (d + 1) (.mk n args) 30 9 Cn.cells v args base K wr) (h0 : 0 < args.length) :
    ∃ g cap, v = .slice (some ⟨g, 0, none⟩) args.length cap ∧ wr.cell? ⟨q3, 8, none⟩ = some (.slice n.aa args.length n.ac) ∧ wr.frozen? ⟨q3, 8, none⟩ = false ∧ q3 < wr.heap.size ∧ SbA w S q3 q4 d0 c0 d { n with aa := some ⟨g, 0, none⟩, ac := cap } args base g K (wr.setCell ⟨q3, 8, none⟩ (.slice (some ⟨g, 0, none⟩) args.length cap)) := by
  have hb := h.hb
  have hl := h.sb.lt
  have e1 := h.sb.sl
  have e2 := h.sb.lo
  obtain ⟨a, cap, e, hR, h1, h2⟩ := RAt.of_own h.own (fun x _ => x.len)
  subst e
  obtain ⟨p, off, e, -⟩ := hR 0 h0
  subst e
  have own := h.own
  have h3 : base ≤ p ∧ off = 0 := by
    rcases own.2 with ⟨e, _⟩ | ⟨g', c', _, e, _⟩
    · cases e
    · injection e with e _ _
      injection e with e
      injection e with e e' _
      subst e e'
      exact ⟨(own.lt p rfl).1, rfl⟩
  obtain ⟨h3, rfl⟩ := h3
  have kk : wr.grownBy (wr.setCell ⟨q3, 8, none⟩ (.slice (some ⟨p, 0, none⟩) args.length cap)) (some q3) := ⟨rfl, rfl, rfl, by simp [World.setCell], fun j _ hne => Below.heap_setCell wr _ _ j (by rintro rfl; exact hne rfl)⟩
  have hT := h.sb.tr.kept kk (fun g e => by obtain rfl := Option.some.inj e; exact h.sb.f3)
  obtain ⟨⟨o1, o2, o3, o4, o5, o6, o7, o8, o9, o10⟩, t2, t3, t4, t5, t6⟩ := hT
  have FF : ∀ g, g ≤ q4 → FarT (d + 1) (.mk n args) g → FarT (d + 1) (.mk { n with aa := some ⟨p, 0, none⟩, ac := cap } args) g := fun g hg hf =>
    ⟨hf.1, hf.2.1, fun _ p' off' e => by injection e with e; injection e with e; omega, hf.2.2.2⟩
  have own' := own.kept kk (.inr (fun e => by have := Option.some.inj e; simp only at this; omega))
  refine ⟨p, cap, rfl, h.sb.bx.cell 8 _ rfl, h.sb.bx.free 8, h.sb.bx.lt, ⟨h.sb.write (h.sb.bx.put 8 _ rfl) kk ⟨⟨o1, o2, o3, o4, o5, o6, o7, o8, o9, o10⟩, ⟨h1, h2, t2.2.2⟩, t3, t4, own_rat own' (fun x _ => x.len), t6⟩ (FF _ (by omega) h.sb.f3) (FF _ (Nat.le_refl _) h.sb.f4) (fun g hg hf => FF g (by omega) (h.sb.fo g hg hf)) (FF _ (by omega) h.sb.fs), rfl, own', h.hb, ?_⟩⟩
  have := h.far p h3
  exact ⟨this.1, this.2.1, this.2.2.2⟩
theorem SbA.near {gg : Nat} (h : SbA w S q3 q4 d0 c0 d n args base g K wr) (hg : gg ≤ q4 ∨ gg = g) : gg < wr.heap.size := by
  rcases hg with hg | hg
  · have := h.sb.mkk.ob.lt
    omega
  · have := (h.own.lt g rfl).2
    omega
/-- one of the others is spoiled -/
theorem SbA.set (h : SbA w S q3 q4 d0 c0 d n args base g K wr) (k : Nat) (hk : k < args.length) (hd : d ≤ d') (hT : TAt d' wr x') (hF : ∀ gg, gg ≤ q4 ∨ gg = g → FarT d args[k] gg → FarT d' x' gg) :
    Sb w S q3 q4 d0 c0 (d' + 1) (.mk n (args.set k x')) K (wr.setCells g (9 * k) x'.cells) := by
  have e1 := h.sb.sl
  have e2 := h.sb.lo
  have e3 := h.sb.lt
  have e4 := h.hb
  have e5 := (h.own.lt g rfl).1
  have e6 : g < wr.heap.size := (h.own.lt g rfl).2
  have e7 := h.sb.mkk.ob.lt
  have hmem : args[k] ∈ args := List.getElem_mem hk
  obtain ⟨ow, gr⟩ := own_setsC x'.cells (9 * k) h.own
  rw [Nat.mul_comm 9 k, fm_setLC Cn.cells 9 args k x' hk (fun x _ => x.len) x'.len] at ow
  rw [Nat.mul_comm 9 k] at gr ⊢
  have hb9 := h.sb.bx.grown gr (fun e => by have := Option.some.inj e; omega)
  have hm9 : Mk w S q4 condZ 30 K (wr.setCells g (k * 9) x'.cells) :=
    ⟨h.sb.mkk.ob.grown gr (fun e => by have := Option.some.inj e; omega), strm_own h.sb.mkk.st gr (fun b hb => by have := Option.some.inj hb; omega), grown_own h.sb.mkk.gr gr (fun b hb => by have := Option.some.inj hb; omega), h.sb.mkk.lo, h.sb.mkk.sg⟩
  have FF : ∀ gg, gg ≤ q4 → FarT (d + 1) (.mk n args) gg → FarT (d' + 1) (.mk n (args.set k x')) gg := fun gg hg hf =>
    ⟨hf.1, hf.2.1, by
      have := hf.2.2.1
      simp only [Cn.nd, Cn.args, List.length_set] at this ⊢
      exact this, fun y hy => by
      rcases List.mem_or_eq_of_mem_set hy with hy | rfl
      · exact FarT.mono hd (h.sb.tr.2.2.2.2.2 y hy) (hf.2.2.2 y hy)
      · exact hF gg (.inl hg) (hf.2.2.2 _ hmem)⟩
  have hT0 := h.sb.tr
  obtain ⟨t1, t2, t3, t4, t5, t6⟩ := hT0
  refine ⟨hm9, by simpa [OB, Cn.cells, Cn.nd, Cn.args] using hb9, e2, e3, ⟨t1, ?_, t3.kept gr (fun g' e => by obtain rfl := Option.some.inj e; exact h.far.1), t4.kept gr (fun g' e => by obtain rfl := Option.some.inj e; exact h.far.2.1), ?_, fun y hy => ?_⟩, FF _ (by omega) h.sb.f3, FF _ (by omega) h.sb.f4, fun gg hg hf => FF gg (by omega) (h.sb.fo gg hg hf), FF _ (by omega) h.sb.fs, e1⟩
  · simp only [Cn.nd, Cn.args, List.length_set] at t2 ⊢
    exact t2
  · have hr := own_rat (l := args.set k x') (f := Cn.cells) (by rw [List.length_set]; exact ow) (fun x _ => x.len)
    rw [← h.aa] at hr
    exact hr
  · rcases List.mem_or_eq_of_mem_set hy with hy | rfl
    · exact ((t6 y hy).mono hd).kept gr (fun g' e => by obtain rfl := Option.some.inj e; exact FarT.mono hd (t6 y hy) (h.far.2.2 y hy))
    · exact hT.kept gr (fun g' e => by obtain rfl := Option.some.inj e; exact hF _ (.inr rfl) (h.far.2.2 _ hmem))
end
end Go.Proofs.YtfdpfkdfglombaaGreatDoor
/- (*Stream).SpoiledCond (printed by gen_spoil.py). -/
set_option linter.unusedVariables false
namespace Go.Proofs.YtfdpfkdfglombaaGreatDoor
open Go.RowKit

theorem small_of_mem {l : List ByteArray} {x : ByteArray} {n : Nat} (h : x ∈ l) (hl : ∀ s ∈ l, s.size ≤ n) : x.size ≤ n := hl x h
/-- what the region that spoils one of the others keeps -/
structure JSp (d : Nat) (w : World) (S : SC) (q3 q4 : Nat) (d0 : Nat) (c0 : Cn) (n : Nd) (args : List Cn) (base g k : Nat) (x : Cn) (K kn M : Nat) (b : Msk) (v : Nat → Value) (wr : World) : Prop where
  base : SbA w S q3 q4 d0 c0 d n args base g (K + cond (b 9) kn 0) wr
  p1 : b 1 = true → v 25 = .slice (some ⟨g, 0, none⟩) args.length n.ac
  p5 : b 5 = true → v 29 = .slice (some ⟨g, 0, none⟩) args.length n.ac
  p7 : b 7 = true → v 31 = .pointer (some ⟨g, k * 9, none⟩)
  p8 : b 8 = true → v 32 = x.agg
  p9 : b 9 = true → ∃ x', v 33 = x'.agg ∧ TAt (d + 20) wr x' ∧ (∀ gg, gg ≤ q4 ∨ gg = g → FarT d x gg → FarT (d + 20) x' gg) ∧ szN (d + 20) x' ≤ M
theorem wpAny_store_last {P : Program} {md : Region.Mode} {ops : Array Oper} {Q : Exit → Act → World → Prop} {fuel i : Nat} {o : Oper} {listed : Array Bool} {a : Act} {w : World} (ty : TypeId) (x y : Operand) (hr : Region.ready md ops listed = [i]) (hi : ops[i]? = some o) (hg : o.guard = none) (ho : o.op = .store ty x y)
    (b off : Nat) (cells : List Value) (hx : a.eval x = .pointer (some ⟨b, off, none⟩)) (hy : a.eval y = .agg cells.toArray) (ht : w.there b off cells.length) (hin : (P.info? ty).map (·.size) = some cells.length) (h1 : cells.toArray.all (·.oneCell') = true)
    (h : wpAny P md ops Q fuel (listed.setIfInBounds i true) (a.put o.dst undef) (w.setCells b off cells)) : wpAny P md ops Q (fuel + 1) listed a w := by
  refine wpAny_ready hr (by simp) ?_
  intro j hj
  obtain rfl : j = i := List.mem_singleton.1 hj
  refine wpOp_calm hi hg fun K' Q' hK' => ?_
  exact wp_store_mid ty x y ho b off cells.toArray hx hy ht hin h1 (hK' _ _ h)
theorem rep_n (c : Int) (h0 : 2 ≤ c) (h1 : c ≤ 100) : ∃ r : ByteArray, r.size ≤ 100 ∧ ∀ w, Calls Tryz.prog 70 #[.string ⟨#[110]⟩, .int .i64 c] w fun e w' => e = .returned (.string r) ∧ Below w.heap.size w w' := by
  obtain ⟨m, rfl⟩ := Int.eq_ofNat_of_zero_le (show 0 ≤ c by omega)
  refine ⟨⟨(Lib.repeatL [110] m).toArray⟩, ?_, fun w => Tryz.strings_Repeat ⟨#[110]⟩ m w (by omega) (by show 1 * m ≤ _; omega)⟩
  show (Lib.repeatL [110] m).toArray.size ≤ 100
  simp [Lib.repeatL_length]
  omega
theorem szN_mem {d k : Nat} {n : Nd} {args : List Cn} (hk : k < args.length) : szN d args[k] ≤ szN (d + 1) (.mk n args) := by
  have h : ∀ (l : List Nat) (j : Nat) (hj : j < l.length), l[j] ≤ l.sum := fun l => by
    induction l with
    | nil => intro j hj; simp at hj
    | cons y r ih =>
      intro j hj
      cases j with
      | zero => simp
      | succ j =>
        have := ih j (by simpa using hj)
        simp only [List.getElem_cons_succ, List.sum_cons]
        omega
  have := h (args.map (szN d)) k (by simpa using hk)
  simp only [List.getElem_map] at this
  show _ ≤ 1 + (args.map (szN d)).sum
  omega
theorem szN_set {d d' k : Nat} {w : World} {n n' : Nd} {args : List Cn} {x' : Cn} (hT : ∀ y ∈ args, TAt d w y) (hd : d ≤ d') : szN (d' + 1) (.mk n' (args.set k x')) ≤ szN (d + 1) (.mk n args) + szN d' x' := by
  show 1 + ((args.set k x').map (szN d')).sum ≤ 1 + (args.map (szN d)).sum + szN d' x'
  have e : args.map (szN d') = args.map (szN d) := List.map_congr_left (fun y hy => szN_mono (hT y hy) hd)
  rw [List.map_set, e]
  have := sum_set_le (args.map (szN d)) k (szN d' x')
  omega
theorem SbA.at9 {w wr : World} {S : SC} {q3 q4 d0 d K base g : Nat} {c0 : Cn} {n : Nd} {args : List Cn} (h : SbA w S q3 q4 d0 c0 d n args base g K wr) (k : Nat) (hk : k < args.length) :
    g < wr.heap.size ∧ wr.cell? ⟨g, k * 9, none⟩ = some (.int .i64 args[k].nd.kind) ∧ wr.cell? ⟨g, k * 9 + 1, none⟩ = some (.string args[k].nd.name) ∧ wr.cell? ⟨g, k * 9 + 2, none⟩ = some (.string args[k].nd.field) ∧ wr.cell? ⟨g, k * 9 + 3, none⟩ = some (.string args[k].nd.sign) ∧ wr.cell? ⟨g, k * 9 + 4, none⟩ = some (.slice args[k].nd.va args[k].nd.vals.length args[k].nd.vc) ∧ wr.cell? ⟨g, k * 9 + 5, none⟩ = some (.slice args[k].nd.wa args[k].nd.whs.length args[k].nd.wc) ∧ wr.cell? ⟨g, k * 9 + 6, none⟩ = some (.int .i64 args[k].nd.within) ∧ wr.cell? ⟨g, k * 9 + 7, none⟩ = some (.int .i64 args[k].nd.number) ∧ wr.cell? ⟨g, k * 9 + 8, none⟩ = some (.slice args[k].nd.aa args[k].args.length args[k].nd.ac) := by
  obtain ⟨p, off, e, hp, c0, c1, c2, c3, c4, c5, c6, c7, c8⟩ := (own_rat h.own (fun x _ => x.len)).at9c hk
  injection e with e
  injection e with e1 e2
  subst e1 e2
  simp only [Nat.zero_add] at c0 c1 c2 c3 c4 c5 c6 c7 c8
  exact ⟨hp, c0, c1, c2, c3, c4, c5, c6, c7, c8⟩
set_option maxRecDepth 100000 in
set_option maxHeartbeats 16000000 in
theorem spoil_succ (S : SC) (d : Nat) (ih : ∀ (c : Cn) (K : Nat) (w : World), TAt d w c → FarT d c S.g → smT d c → Strm w S K → K + 3 * d ≤ 100000 → Calls Tryz.prog 27 #[S.p, c.agg] w (GenSp S (K + 3 * d + 20) w d c (d + 20) ((d + 1) * szN d c + 20)))
    (kind : Int) (name field sign : ByteArray) (va : Option Addr) (vc : Nat) (vals : List Vl) (wa : Option Addr) (wc9 : Nat) (whs : List Wh) (within number : Int) (aa : Option Addr) (ac : Nat) (args : List Cn)
    (K : Nat) (w : World) (hT : TAt (d + 1) w (.mk ⟨kind, name, field, sign, va, vc, vals, wa, wc9, whs, within, number, aa, ac⟩ args)) (hF : FarT (d + 1) (.mk ⟨kind, name, field, sign, va, vc, vals, wa, wc9, whs, within, number, aa, ac⟩ args) S.g) (hsm : smT (d + 1) (.mk ⟨kind, name, field, sign, va, vc, vals, wa, wc9, whs, within, number, aa, ac⟩ args)) (hs : Strm w S K) (hK : K + 3 * (d + 1) ≤ 100000) :
    Calls Tryz.prog 27 #[S.p, .agg #[.int .i64 kind, .string name, .string field, .string sign, .slice va vals.length vc, .slice wa whs.length wc9, .int .i64 within, .int .i64 number, .slice aa args.length ac]] w (GenSp S (K + 3 * (d + 1) + 20) w (d + 1) (.mk ⟨kind, name, field, sign, va, vc, vals, wa, wc9, whs, within, number, aa, ac⟩ args) (d + 1 + 20) ((d + 1 + 1) * szN (d + 1) (.mk ⟨kind, name, field, sign, va, vc, vals, wa, wc9, whs, within, number, aa, ac⟩ args) + 20)) := by
  have IH := Lib.hid ih
  have HSM := Lib.hid hsm
  have hok := hT.1
  have HZL : Hid (szN (d + 1) (.mk ⟨kind, name, field, sign, va, vc, vals, wa, wc9, whs, within, number, aa, ac⟩ args) + 20 ≤ (d + 1 + 1) * szN (d + 1) (.mk ⟨kind, name, field, sign, va, vc, vals, wa, wc9, whs, within, number, aa, ac⟩ args) + 20) := Lib.hid (by rw [Nat.succ_mul]; omega)
  have HB := Lib.hid (Sb.new hT hF hs)
  clear hT hF hsm hs ih
  go_enter Tryz.func27, Tryz.ntmps27
  go_upto_region 1 with (fail)
  unfold condZ at HB
  simp only [List.toArray, Cn.cells, Cn.nd, Cn.args] at HB
  generalize (w.alloc (.cells _ 30)).alloc (.cells _ 30) = w1 at *
  obtain ⟨q3, hq3⟩ : ∃ z, w.heap.size = z := ⟨_, rfl⟩
  obtain ⟨q4, hq4⟩ : ∃ z, w.heap.size + 1 = z := ⟨_, rfl⟩
  rw [hq4] at HB ⊢
  rw [hq3] at HB ⊢
  clear hq3 hq4
  have HB0 := Lib.hid (show Sb w S q3 q4 (d + 1) (.mk ⟨kind, name, field, sign, va, vc, vals, wa, wc9, whs, within, number, aa, ac⟩ args) (d + 1) (.mk ⟨kind, name, field, sign, va, vc, vals, wa, wc9, whs, within, number, aa, ac⟩ args) K w1 from HB.out)
  clear HB
  have s1 := HB0.out.mkk.st
  go_cut [14] (fun t wx => ∃ b : Bool, t = .bool b ∧ (b = true → 0 < args.length) ∧ Sb w S q3 q4 (d + 1) (.mk ⟨kind, name, field, sign, va, vc, vals, wa, wc9, whs, within, number, aa, ac⟩ args) (d + 1) (.mk ⟨kind, name, field, sign, va, vc, vals, wa, wc9, whs, within, number, aa, ac⟩ args) (K + 1) wx)
  case first =>
    --@first
    have y8 := HB0.out.bx.cell 8 (.slice aa args.length ac) rfl
    have yl := HB0.out.bx.lt
    by_cases h1 : 0 < args.length
    · have h1' : (0 : Int) < (args.length : Int) := by omega
      go_wp2_with fail
      with_reducible refine (flip_any S _ _ _ s1 (by omega) (by omega)).mono ?_
      rintro e w5 ⟨b, rfl, kk, s6⟩
      have HT5 := Lib.hid (HB0.out.draw kk s6)
      clear kk s6 s1 HB0 y8 yl
      go_wp2_with fail
      go_meet
      exact ⟨!b, rfl, fun _ => h1, HT5.out⟩
    · have h1' : ¬ (0 : Int) < (args.length : Int) := by omega
      go_wp2_with fail
      go_meet
      exact ⟨false, rfl, fun e => (by cases e), HB0.out.mono (by omega)⟩
    --@end
  case rest =>
  obtain ⟨b, rfl, hpos, hB⟩ := hcut
  have HB1 := Lib.hid hB
  clear hB HB0 s1
  have s1 := HB1.out.mkk.st
  cases b with
  | true =>
    replace hpos := hpos rfl
    have y8 := HB1.out.bx.cell 8 (.slice aa args.length ac) rfl
    have yl := HB1.out.bx.lt
    have hal : args.length ≤ 1000 := wdM_le HB1.out.tr.2.1.2.2
    have CL := Lib.hid (fun n hn => cloneCn_any aa args n ac wc hn (by omega) HB1.out.tr.2.2.2.2.1)
    go_wp2_with fail
    with_reducible refine (CL.out _ rfl).mono ?_
    rintro e w3 ⟨v, rfl, own, hb⟩
    obtain ⟨g, cap, rfl, f1, f2, f3, hA⟩ := (HB1.out.clone own hb).kids hpos
    have HA := Lib.hid hA
    clear own hb CL HB1 s1 y8 yl hA
    go_upto_region 3 with (fail)
    clear f1 f2 f3
    generalize w3.setCell _ _ = w4 at *
    have y8 := HA.out.sb.bx.cell 8 (.slice (some ⟨g, 0, none⟩) args.length cap) rfl
    have yl := HA.out.sb.bx.lt
    have s3 := HA.out.sb.mkk.st
    go_wp2_with fail
    with_reducible refine (next_any S _ _ _ s3 (by omega) (by omega)).mono ?_
    rintro e wq ⟨z, ⟨hz0', hz1', -⟩, rfl, kk, s4⟩
    have hz2' := hz1' (by omega)
    obtain ⟨k, rfl⟩ := Int.eq_ofNat_of_zero_le hz0'
    have hk : k < args.length := by omega
    have HAq := Lib.hid (HA.out.draw kk s4)
    clear kk s3 HA hz0' hz1' hz2' y8 yl s4
    obtain ⟨x, hx0⟩ : ∃ z, args[k] = z := ⟨_, rfl⟩
    obtain ⟨bs, hbs⟩ : ∃ z, wc.heap.size = z := ⟨_, rfl⟩
    rw [hbs] at HAq
    clear hbs
    go_upto_region 4 with (fail)
    refine wp_region_any (by kernel_rfl) ?_
    change wpAny _ _ _ _ _ _ _ (World.drew _)
    have HTd := Lib.hid HAq.out.drew
    clear HAq
    generalize World.drew _ = wd at *
    refine wpAny_take (i := 0) (oi := ⟨some 24, _, _, _, _, _⟩) (v := (.pointer (some ⟨q3, 8, none⟩))) rfl (by kernel_rfl) (by kernel_rfl) (by kernel_rfl) (fun _ _ _ h => h) (Or.inl ⟨by rfl, fun w => by go_simp⟩) ?_
    refine wpAny_take (i := 2) (oi := ⟨some 26, _, _, _, _, _⟩) (v := (.int .i64 (k : Int))) rfl (by kernel_rfl) (by kernel_rfl) (by kernel_rfl) (fun _ _ _ h => h) (Or.inl ⟨by rfl, fun w => by go_simp⟩) ?_
    refine wpAny_take (i := 3) (oi := ⟨some 27, _, _, _, _, _⟩) (v := S.p) rfl (by kernel_rfl) (by kernel_rfl) (by kernel_rfl) (fun _ _ _ h => h) (Or.inl ⟨by rfl, fun w => by go_simp⟩) ?_
    refine wpAny_take (i := 4) (oi := ⟨some 28, _, _, _, _, _⟩) (v := (.pointer (some ⟨q3, 8, none⟩))) rfl (by kernel_rfl) (by kernel_rfl) (by kernel_rfl) (fun _ _ _ h => h) (Or.inl ⟨by rfl, fun w => by go_simp⟩) ?_
    refine wpAny_take (i := 6) (oi := ⟨some 30, _, _, _, _, _⟩) (v := (.int .i64 (k : Int))) rfl (by kernel_rfl) (by kernel_rfl) (by kernel_rfl) (fun _ _ _ h => h) (Or.inl ⟨by rfl, fun w => by go_simp⟩) ?_
    refine wpAny_mask (n := 2) (m := 7) #[true, false, true, true, true, false, true, false, false, false, false, false] [1, 5, 7, 8, 9] (fun i => if i = 7 then [5] else if i = 8 then [7] else if i = 9 then [8] else []) [25, 29, 31, 32, 33] (fun d => if d = 25 then u25 else if d = 29 then u29 else if d = 31 then u31 else if d = 32 then u32 else u33) (JSp d w S q3 q4 (d + 1) (.mk ⟨kind, name, field, sign, va, vc, vals, wa, wc9, whs, within, number, aa, ac⟩ args) ⟨kind, name, field, sign, va, vc, vals, wa, wc9, whs, within, number, (some ⟨g, 0, none⟩), cap⟩ args bs g k x (K + 2) (3 * d + 20) ((d + 1) * szN d x + 20)) rfl (by decide) (by kernel_rfl) (by kernel_rfl) ?st4 ?hs4 ?he4
    case st4 => exact ⟨HTd.out, fun e => (by cases e), fun e => (by cases e), fun e => (by cases e), fun e => (by cases e), fun e => (by cases e)⟩
    case hs4 =>
      intro i hi b u wx hbi hD hJ
      simp only [List.mem_cons, List.mem_nil_iff, or_false] at hi
      have HJ := Lib.hid hJ
      rcases hi with rfl | rfl | rfl | rfl | rfl
      · --@ka
        refine wpOp_calm (o := ⟨some 25, ?ap1, ?ap2, ?ap3, ?ap4, ?ap5⟩) ?api ?apg ?_
        case api => exact rfl
        case apg => exact rfl
        intro K' Q' hK'
        have HK := Lib.hid hK'
        clear hK'
        have y1 := hJ.base.sb.bx.cell 8 (.slice (some ⟨g, 0, none⟩) args.length cap) rfl
        have yl := hJ.base.sb.bx.lt
        clear hJ
        simp only [setAll, List.foldl]
        go_simp
        exact HK.out _ _ ⟨upd u 25 (.slice (some ⟨g, 0, none⟩) args.length cap), by kernel_rfl, ⟨HJ.out.base, fun _ => rfl, fun e => HJ.out.p5 e, fun e => HJ.out.p7 e, fun e => HJ.out.p8 e, fun e => HJ.out.p9 e⟩⟩
        --@end
      · --@kb
        refine wpOp_calm (o := ⟨some 29, ?bp1, ?bp2, ?bp3, ?bp4, ?bp5⟩) ?bpi ?bpg ?_
        case bpi => exact rfl
        case bpg => exact rfl
        intro K' Q' hK'
        have HK := Lib.hid hK'
        clear hK'
        have y1 := hJ.base.sb.bx.cell 8 (.slice (some ⟨g, 0, none⟩) args.length cap) rfl
        have yl := hJ.base.sb.bx.lt
        clear hJ
        simp only [setAll, List.foldl]
        go_simp
        exact HK.out _ _ ⟨upd u 29 (.slice (some ⟨g, 0, none⟩) args.length cap), by kernel_rfl, ⟨HJ.out.base, fun e => HJ.out.p1 e, fun _ => rfl, fun e => HJ.out.p7 e, fun e => HJ.out.p8 e, fun e => HJ.out.p9 e⟩⟩
        --@end
      · --@kc
        refine wpOp_calm (o := ⟨some 31, ?cp1, ?cp2, ?cp3, ?cp4, ?cp5⟩) ?cpi ?cpg ?_
        case cpi => exact rfl
        case cpg => exact rfl
        intro K' Q' hK'
        have HK := Lib.hid hK'
        clear hK'
        have h5 := HJ.out.p5 (hD 5 (by simp))
        simp only [] at h5
        clear hJ
        simp only [setAll, List.foldl, h5]
        go_simp
        exact HK.out _ _ ⟨upd (upd u 29 (.slice (some ⟨g, 0, none⟩) args.length cap)) 31 (.pointer (some ⟨g, k * 9, none⟩)), by kernel_rfl, by
          rw [upd_same h5]
          exact ⟨HJ.out.base, fun e => HJ.out.p1 e, fun e => HJ.out.p5 e, fun _ => rfl, fun e => HJ.out.p8 e, fun e => HJ.out.p9 e⟩⟩
        --@end
      · --@kd
        refine wpOp_calm (o := ⟨some 32, ?dp1, ?dp2, ?dp3, ?dp4, ?dp5⟩) ?dpi ?dpg ?_
        case dpi => exact rfl
        case dpg => exact rfl
        intro K' Q' hK'
        have HK := Lib.hid hK'
        clear hK'
        have h7 := HJ.out.p7 (hD 7 (by simp))
        have AT := Lib.hid (HJ.out.base.at9 k hk)
        rw [hx0] at AT
        have gl := AT.out.1
        have c0 := AT.out.2.1
        have c1 := AT.out.2.2.1
        have c2 := AT.out.2.2.2.1
        have c3 := AT.out.2.2.2.2.1
        have c4 := AT.out.2.2.2.2.2.1
        have c5 := AT.out.2.2.2.2.2.2.1
        have c6 := AT.out.2.2.2.2.2.2.2.1
        have c7 := AT.out.2.2.2.2.2.2.2.2.1
        have c8 := AT.out.2.2.2.2.2.2.2.2.2
        clear AT
        clear hJ
        simp only [setAll, List.foldl, h7]
        go_simp
        exact HK.out _ _ ⟨upd (upd u 31 (.pointer (some ⟨g, k * 9, none⟩))) 32 x.agg, by unfold Cn.agg; kernel_rfl, by
          rw [upd_same h7]
          exact ⟨HJ.out.base, fun e => HJ.out.p1 e, fun e => HJ.out.p5 e, fun e => HJ.out.p7 e, fun _ => rfl, fun e => HJ.out.p9 e⟩⟩
        --@end
      · --@ke
        refine wpOp_calm (o := ⟨some 33, ?ep1, ?ep2, ?ep3, ?ep4, ?ep5⟩) ?epi ?epg ?_
        case epi => exact rfl
        case epg => exact rfl
        intro K' Q' hK'
        have HK := Lib.hid hK'
        clear hK'
        have h8 := HJ.out.p8 (hD 8 (by simp))
        have hxm : x ∈ args := hx0 ▸ List.getElem_mem hk
        have C := IH.out x (K + 2) wx (hJ.base.sb.tr.2.2.2.2.2 x hxm) (hJ.base.sb.fs.2.2.2 x hxm) (HSM.out.2.2 x hxm) (strm_mono hJ.base.sb.mkk.st (by rw [hbi]; exact Nat.le_refl _)) (by omega)
        have HC := Lib.hid C
        clear C
        clear hJ
        simp only [setAll, List.foldl, h8]
        go_simp
        refine HC.out.mono ?_
        rintro e w' ⟨x', rfl, hT, hF, hsz, k', st⟩
        exact HK.out _ _ ⟨upd (upd u 32 x.agg) 33 x'.agg, by unfold Cn.agg; kernel_rfl, by
          rw [upd_same h8]
          exact ⟨HJ.out.base.draw k' (strm_mono st (show K + 2 + 3 * d + 20 ≤ K + 2 + (3 * d + 20) by omega)), fun e => HJ.out.p1 e, fun e => HJ.out.p5 e, fun e => HJ.out.p7 e, fun e => HJ.out.p8 e, fun _ => ⟨x', rfl, hT, fun gg hg => hF gg (HJ.out.base.near hg), hsz⟩⟩⟩
        --@end
    case he4 =>
      --@kh
      intro b u wx hb hJ
      obtain ⟨x', h9, hT, hF, hsz⟩ := hJ.p9 (hb 9 (by simp))
      have h1 := hJ.p1 (hb 1 (by simp))
      simp only [] at h1
      have HW := Lib.hid (hJ.base.mono (show K + 2 + cond (b 9) (3 * d + 20) 0 ≤ K + 2 + (3 * d + 20) by cases b 9 <;> simp only [cond] <;> omega))
      obtain ⟨u29', hu29⟩ : ∃ z, u 29 = z := ⟨_, rfl⟩
      obtain ⟨u31', hu31⟩ : ∃ z, u 31 = z := ⟨_, rfl⟩
      obtain ⟨u32', hu32⟩ : ∃ z, u 32 = z := ⟨_, rfl⟩
      simp only [setAll, List.foldl, h1, h9, hu29, hu31, hu32]
      clear h1 h9 hb hJ hu29 hu31 hu32
      refine wpAny_take (i := 10) (oi := ⟨some 34, _, _, _, _, _⟩) (v := (.pointer (some ⟨g, k * 9, none⟩))) rfl (by kernel_rfl) (by kernel_rfl) (by kernel_rfl) (fun _ _ _ h => h) (Or.inl ⟨by rfl, fun w => by go_simp⟩) ?_
      have hth : wx.there g (k * 9) x'.cells.length := own_thereC HW.out.own (k * 9) 9 (by omega)
      have hone : x'.cells.toArray.all (·.oneCell') = true := by simp [Cn.cells, Value.oneCell']
      refine wpAny_store_last (i := 11) (o := ⟨none, _, _, _, _, _⟩) 30 (.tmp 34) (.tmp 33) (by kernel_rfl) rfl rfl rfl g (k * 9) x'.cells (by kernel_rfl) (by kernel_rfl) hth sizeCond hone ?_
      clear hth hone
      have HS := Lib.hid (HW.out.set k hk (Nat.le_add_right d 20) hT (by rw [hx0]; exact hF))
      rw [Nat.mul_comm 9 k] at HS
      have hsl := szN_set (n := ⟨kind, name, field, sign, va, vc, vals, wa, wc9, whs, within, number, aa, ac⟩) (n' := ⟨kind, name, field, sign, va, vc, vals, wa, wc9, whs, within, number, (some ⟨g, 0, none⟩), cap⟩) (args := args) (k := k) (x' := x') HW.out.sb.tr.2.2.2.2.2 (Nat.le_add_right d 20)
      have hxl : szN d x ≤ szN (d + 1) (.mk ⟨kind, name, field, sign, va, vc, vals, wa, wc9, whs, within, number, aa, ac⟩ args) := by rw [← hx0]; exact szN_mem hk
      have hml := Nat.mul_le_mul_left (d + 1) hxl
      have hsm : (d + 1 + 1) * szN (d + 1) (.mk ⟨kind, name, field, sign, va, vc, vals, wa, wc9, whs, within, number, aa, ac⟩ args) = (d + 1) * szN (d + 1) (.mk ⟨kind, name, field, sign, va, vc, vals, wa, wc9, whs, within, number, aa, ac⟩ args) + szN (d + 1) (.mk ⟨kind, name, field, sign, va, vc, vals, wa, wc9, whs, within, number, aa, ac⟩ args) := Nat.succ_mul _ _
      have HMS : Hid (szN (d + 20 + 1) (.mk ⟨kind, name, field, sign, va, vc, vals, wa, wc9, whs, within, number, (some ⟨g, 0, none⟩), cap⟩ (args.set k x')) ≤ (d + 1 + 1) * szN (d + 1) (.mk ⟨kind, name, field, sign, va, vc, vals, wa, wc9, whs, within, number, aa, ac⟩ args) + 20) := Lib.hid (by omega)
      clear hsl hxl hml hsm hT hF hsz HW
      refine wpAny_done (by kernel_rfl) ?_ _
      generalize wx.setCells g (k * 9) x'.cells = wk at *
      have y0 := HS.out.bx.cell 0 (.int .i64 kind) rfl
      have y1 := HS.out.bx.cell 1 (.string name) rfl
      have y2 := HS.out.bx.cell 2 (.string field) rfl
      have y3 := HS.out.bx.cell 3 (.string sign) rfl
      have y4 := HS.out.bx.cell 4 (.slice va vals.length vc) rfl
      have y5 := HS.out.bx.cell 5 (.slice wa whs.length wc9) rfl
      have y6 := HS.out.bx.cell 6 (.int .i64 within) rfl
      have y7 := HS.out.bx.cell 7 (.int .i64 number) rfl
      have y8 := HS.out.bx.cell 8 (.slice (some ⟨g, 0, none⟩) args.length cap) (by simp [Cn.cells, Cn.nd, Cn.args])
      have yl := HS.out.bx.lt
      go_wp2_with (refine wpList_store_oc _ rfl _ _ _ rfl q4 _ [.int .i64 kind, .string name, .string field, .string sign, .slice va vals.length vc, .slice wa whs.length wc9, .int .i64 within, .int .i64 number, .slice (some ⟨g, 0, none⟩) args.length cap] _ rfl rfl HS.out.mkk.ob sizeCond rfl rfl ?_)
      intro wz oz kz
      have r0 := oz.cell 0 _ rfl
      have r1 := oz.cell 1 _ rfl
      have r2 := oz.cell 2 _ rfl
      have r3 := oz.cell 3 _ rfl
      have r4 := oz.cell 4 _ rfl
      have r5 := oz.cell 5 _ rfl
      have r6 := oz.cell 6 _ rfl
      have r7 := oz.cell 7 _ rfl
      have r8 := oz.cell 8 _ rfl
      have HOz := Lib.hid oz
      have HKz := Lib.hid kz
      clear oz kz y0 y1 y2 y3 y4 y5 y6 y7 y8 yl
      go_wp2_with fail
      refine bodyPost_ret (v := .agg #[.int .i64 kind, .string name, .string field, .string sign, .slice va vals.length vc, .slice wa whs.length wc9, .int .i64 within, .int .i64 number, .slice (some ⟨g, 0, none⟩) args.length cap]) (by simp [results, Tryz.results27, go_sem, r0, r1, r2, r3, r4, r5, r6, r7, r8]) rfl ?_
      have hcs : (Cn.mk ⟨kind, name, field, sign, va, vc, vals, wa, wc9, whs, within, number, (some ⟨g, 0, none⟩), cap⟩ (args.set k x')).cells = [.int .i64 kind, .string name, .string field, .string sign, .slice va vals.length vc, .slice wa whs.length wc9, .int .i64 within, .int .i64 number, .slice (some ⟨g, 0, none⟩) args.length cap] := by simp [Cn.cells, Cn.nd, Cn.args]
      have R := HS.out.gen (K' := K + 3 * (d + 1) + 20) (M := (d + 1 + 1) * szN (d + 1) (.mk ⟨kind, name, field, sign, va, vc, vals, wa, wc9, whs, within, number, aa, ac⟩ args) + 20) HKz.out (by rw [hcs]; exact HOz.out) (by omega) HMS.out
      rw [hcs, show d + 20 + 1 = d + 1 + 20 by omega] at R
      exact R
      --@end
  | false =>
    clear hpos
    go_wp2_with fail
    with_reducible refine (next_any S _ _ _ s1 (by omega) (by omega)).mono ?_
    rintro e wq ⟨z, ⟨hz0', hz1', -⟩, rfl, kk, s2⟩
    have hz2' := hz1' (by omega)
    have HA := Lib.hid (HB1.out.draw kk s2)
    clear kk s1 HB1 hz1'
    go_upto_block 0 with (fail)
    go_cut [] (fun wx => ∃ (d1 : Nat) (c1 : Cn), d1 ≤ d + 1 + 20 ∧ szN d1 c1 ≤ szN (d + 1) (.mk ⟨kind, name, field, sign, va, vc, vals, wa, wc9, whs, within, number, aa, ac⟩ args) + 20 ∧ Sb w S q3 q4 (d + 1) (.mk ⟨kind, name, field, sign, va, vc, vals, wa, wc9, whs, within, number, aa, ac⟩ args) d1 c1 (K + 10) wx)
    case first =>
      have hz : z = 0 ∨ z = 1 ∨ z = 2 ∨ z = 3 ∨ z = 4 ∨ z = 5 ∨ z = 6 ∨ z = 7 ∨ z = 8 := by omega
      clear hz0' hz2'
      rcases hz with rfl | rfl | rfl | rfl | rfl | rfl | rfl | rfl | rfl
      · --@c0
        go_wp2_with fail
        with_reducible refine (range_any S _ 0 15 _ s2 (by omega) (by omega) (by omega) (by omega)).mono ?_
        rintro e w3 ⟨r, ⟨hr0, hr1⟩, rfl, kk, s3⟩
        have HL := Lib.hid (HA.out.draw kk s3)
        clear kk HA s2
        have f1 := HL.out.bx.cell 0 (.int .i64 kind) rfl
        have f2 := HL.out.bx.free 0
        have f3 := HL.out.bx.lt
        go_wp2_with fail
        go_meet
        exact ⟨d + 1, .mk ⟨r, name, field, sign, va, vc, vals, wa, wc9, whs, within, number, aa, ac⟩ args, by omega, Nat.le_trans (Nat.le_of_eq szN_sc) (Nat.le_add_right _ _), (HL.out.scal (n' := ⟨r, name, field, sign, va, vc, vals, wa, wc9, whs, within, number, aa, ac⟩) 0 (.int .i64 r) ⟨rfl, rfl, rfl, rfl, rfl, rfl⟩ (⟨by unfold i64B; simp only; omega, hok.2.1, hok.2.2.1, hok.2.2.2.1, hok.2.2.2.2.1, hok.2.2.2.2.2.1, hok.2.2.2.2.2.2.1, hok.2.2.2.2.2.2.2.1, hok.2.2.2.2.2.2.2.2.1, hok.2.2.2.2.2.2.2.2.2⟩) rfl).mono (by omega)⟩
        --@end
      · --@c1
        obtain ⟨r40, h40, c40⟩ := rep_n 40 (by omega) (by omega)
        obtain ⟨r41, h41, c41⟩ := rep_n 41 (by omega) (by omega)
        have C40 := Lib.hid c40
        have C41 := Lib.hid c41
        clear c40 c41
        go_wp2_with fail
        with_reducible refine (C40.out _).mono ?_
        rintro e w3 ⟨rfl, hb⟩
        have HB := Lib.hid (HA.out.draw (grown_of_below hb _) (strm_below s2 hb))
        clear hb HA s2
        have s3 := HB.out.mkk.st
        go_wp2_with fail
        with_reducible refine (C41.out _).mono ?_
        rintro e w4 ⟨rfl, hb⟩
        have HC := Lib.hid (HB.out.draw (grown_of_below hb _) (strm_below s3 hb))
        clear hb HB s3
        have s4 := HC.out.mkk.st
        go_wp2_with fail
        with_reducible refine (one_at S _ [⟨#[]⟩, ⟨#[65, 103, 101]⟩, ⟨#[97, 110, 100]⟩, ⟨#[119, 105, 116, 104, 105, 110]⟩, r40, r41] 6 _ _ _ _ s4 (by omega) rfl (by omega) (by omega) (by simp) (by simp)).mono ?_
        rintro e w5 ⟨x, hm, rfl, kk, s5⟩
        have hx : x.size ≤ 1000 := by
          simp only [List.mem_cons, List.mem_nil_iff, or_false] at hm
          rcases hm with rfl | rfl | rfl | rfl | rfl | rfl
          · decide
          · decide
          · decide
          · decide
          · omega
          · omega
        clear hm
        have HL := Lib.hid (HC.out.draw kk s5)
        clear kk HC s4
        have f1 := HL.out.bx.cell 1 (.string name) rfl
        have f2 := HL.out.bx.free 1
        have f3 := HL.out.bx.lt
        go_wp2_with fail
        go_meet
        exact ⟨d + 1, .mk ⟨kind, x, field, sign, va, vc, vals, wa, wc9, whs, within, number, aa, ac⟩ args, by omega, Nat.le_trans (Nat.le_of_eq szN_sc) (Nat.le_add_right _ _), (HL.out.scal (n' := ⟨kind, x, field, sign, va, vc, vals, wa, wc9, whs, within, number, aa, ac⟩) 1 (.string x) ⟨rfl, rfl, rfl, rfl, rfl, rfl⟩ (⟨hok.1, hx, hok.2.2.1, hok.2.2.2.1, hok.2.2.2.2.1, hok.2.2.2.2.2.1, hok.2.2.2.2.2.2.1, hok.2.2.2.2.2.2.2.1, hok.2.2.2.2.2.2.2.2.1, hok.2.2.2.2.2.2.2.2.2⟩) rfl).mono (by omega)⟩
        --@end
      · --@c2
        go_wp2_with fail
        with_reducible refine (one_at S _ [⟨#[]⟩, ⟨#[120]⟩, ⟨#[110, 111]⟩] 3 _ _ _ _ s2 (by omega) rfl (by omega) (by omega) (by simp) (by simp)).mono ?_
        rintro e w3 ⟨x, hm, rfl, kk, s3⟩
        have hx : x.size ≤ 1000 := mem_size hm (by decide)
        clear hm
        have HL := Lib.hid (HA.out.draw kk s3)
        clear kk HA s2
        have f1 := HL.out.bx.cell 2 (.string field) rfl
        have f2 := HL.out.bx.free 2
        have f3 := HL.out.bx.lt
        go_wp2_with fail
        go_meet
        exact ⟨d + 1, .mk ⟨kind, name, x, sign, va, vc, vals, wa, wc9, whs, within, number, aa, ac⟩ args, by omega, Nat.le_trans (Nat.le_of_eq szN_sc) (Nat.le_add_right _ _), (HL.out.scal (n' := ⟨kind, name, x, sign, va, vc, vals, wa, wc9, whs, within, number, aa, ac⟩) 2 (.string x) ⟨rfl, rfl, rfl, rfl, rfl, rfl⟩ (⟨hok.1, hok.2.1, hx, hok.2.2.2.1, hok.2.2.2.2.1, hok.2.2.2.2.2.1, hok.2.2.2.2.2.2.1, hok.2.2.2.2.2.2.2.1, hok.2.2.2.2.2.2.2.2.1, hok.2.2.2.2.2.2.2.2.2⟩) rfl).mono (by omega)⟩
        --@end
      · --@c3
        go_wp2_with fail
        with_reducible refine (one_at S _ [⟨#[]⟩, ⟨#[61, 61]⟩, ⟨#[60]⟩] 3 _ _ _ _ s2 (by omega) rfl (by omega) (by omega) (by simp) (by simp)).mono ?_
        rintro e w3 ⟨x, hm, rfl, kk, s3⟩
        have hx : x.size ≤ 1000 := mem_size hm (by decide)
        clear hm
        have HL := Lib.hid (HA.out.draw kk s3)
        clear kk HA s2
        have f1 := HL.out.bx.cell 3 (.string sign) rfl
        have f2 := HL.out.bx.free 3
        have f3 := HL.out.bx.lt
        go_wp2_with fail
        go_meet
        exact ⟨d + 1, .mk ⟨kind, name, field, x, va, vc, vals, wa, wc9, whs, within, number, aa, ac⟩ args, by omega, Nat.le_trans (Nat.le_of_eq szN_sc) (Nat.le_add_right _ _), (HL.out.scal (n' := ⟨kind, name, field, x, va, vc, vals, wa, wc9, whs, within, number, aa, ac⟩) 3 (.string x) ⟨rfl, rfl, rfl, rfl, rfl, rfl⟩ (⟨hok.1, hok.2.1, hok.2.2.1, hx, hok.2.2.2.2.1, hok.2.2.2.2.2.1, hok.2.2.2.2.2.2.1, hok.2.2.2.2.2.2.2.1, hok.2.2.2.2.2.2.2.2.1, hok.2.2.2.2.2.2.2.2.2⟩) rfl).mono (by omega)⟩
        --@end
      · --@c4
        obtain ⟨i0, hi, hz0, hz1, hz2⟩ := info_parts infoValue
        have h1000 : vals.length ≤ 10 := hok.2.2.2.2.1.2.2
        have y4 := HA.out.bx.cell 4 (.slice va vals.length vc) rfl
        have yl := HA.out.bx.lt
        have CL := Lib.hid (fun n hn => cloneVl_any va vals n vc wq hn (by omega) HA.out.tr.2.2.1)
        go_wp2_with fail
        with_reducible refine (CL.out _ rfl).mono ?_
        rintro e w3 ⟨v, rfl, own, hb⟩
        have HL3 := Lib.hid (HA.out.clone own hb)
        clear own hb CL HA s2 y4 yl
        have s3 := HL3.out.sb.mkk.st
        have hvl : vals.length ≤ 9 := HSM.out.1
        have HLEN := Lib.hid hvl
        go_wp2_with fail
        with_reducible refine (range_any S _ 0 5 _ s3 (by omega) (by omega) (by omega) (by omega)).mono ?_
        rintro e w4 ⟨r, ⟨hr0, hr1⟩, rfl, kk, s4⟩
        have HL4 := Lib.hid (HL3.out.draw kk s4)
        clear kk HL3 s3
        go_wp2_with fail
        with_reducible refine (one_at S _ [⟨#[]⟩, ⟨#[120]⟩] 2 _ _ _ _ s4 (by omega) rfl (by omega) (by omega) (by simp) (by simp)).mono ?_
        rintro e w5 ⟨x, hm, rfl, kk, s5⟩
        have hx : x.size ≤ 10 := mem_size hm (by decide)
        clear hm
        have HL5 := Lib.hid (HL4.out.draw kk s5)
        clear kk HL4 s4
        go_wp2_with fail
        with_reducible refine (next_any S _ _ _ s5 (by omega) (by omega)).mono ?_
        rintro e w6 ⟨t, ⟨ht0, ht1, -⟩, rfl, kk, s6⟩
        have ht2 := ht1 (by omega)
        clear ht1
        have HL6 := Lib.hid (HL5.out.draw kk s6)
        clear kk HL5 s5
        have own5 := HL6.out.own
        have hbs5 := HL6.out.bs
        go_wp2_with (at_builtin; refine wpList_append_own _ rfl _ _ 26 rfl wq.heap.size 72 i0 _ 3 32 Tryz.underlying26 hi hz0 hz1 hz2 rfl (by decide) _ _ _ rfl (own5.alloc _) ⟨w6.heap.size, 0, none⟩ 1 1 [.int .i64 r, .string x, .int .i64 t] rfl rfl ?k1 ?k2 ?k3 ?k4 ?k5 ?_)
        case k1 => exact cells_new w6 #[.int .i64 r, .string x, .int .i64 t] 72
        case k2 => simp [Value.oneCell']
        case k3 => unfold maxLen; omega
        case k4 => omega
        case k5 => simp; omega
        intro v2 wy owny hgrowy hney
        obtain ⟨a2, cap2, rfl, f1, f2, f3, hS⟩ := (HL6.out.alloc _).vals (x := ⟨r, x, t⟩) ⟨by unfold i64B; simp only; omega, hx, by unfold i64B; simp only; omega⟩ HLEN.out owny hgrowy
        have HS := Lib.hid hS
        clear hS hney owny hgrowy own5 hbs5 HL6
        go_wp2_with fail
        go_meet
        exact ⟨d + 1, .mk ⟨kind, name, field, sign, a2, cap2, (vals ++ [⟨r, x, t⟩]), wa, wc9, whs, within, number, aa, ac⟩ args, by omega, Nat.le_trans (Nat.le_of_eq szN_sc) (Nat.le_add_right _ _), (HS.out.mono (by omega))⟩
        --@end
      · --@c5
        go_wp2_with fail
        with_reducible refine (pick_at S _ [-1, 4321440, 4321441, 5] 4 _ _ _ _ s2 (by omega) rfl (by omega) (by omega) (by simp) (by simp)).mono ?_
        rintro e w3 ⟨r, hm, rfl, kk, s3⟩
        have hr : -1 ≤ r ∧ r ≤ 4321441 := by
          simp only [List.mem_cons, List.mem_nil_iff, or_false] at hm
          omega
        clear hm
        have HL := Lib.hid (HA.out.draw kk s3)
        clear kk HA s2
        have f1 := HL.out.bx.cell 6 (.int .i64 within) rfl
        have f2 := HL.out.bx.free 6
        have f3 := HL.out.bx.lt
        go_wp2_with fail
        go_meet
        exact ⟨d + 1, .mk ⟨kind, name, field, sign, va, vc, vals, wa, wc9, whs, r, number, aa, ac⟩ args, by omega, Nat.le_trans (Nat.le_of_eq szN_sc) (Nat.le_add_right _ _), (HL.out.scal (n' := ⟨kind, name, field, sign, va, vc, vals, wa, wc9, whs, r, number, aa, ac⟩) 6 (.int .i64 r) ⟨rfl, rfl, rfl, rfl, rfl, rfl⟩ (⟨hok.1, hok.2.1, hok.2.2.1, hok.2.2.2.1, hok.2.2.2.2.1, hok.2.2.2.2.2.1, by unfold i64B; simp only; omega, hok.2.2.2.2.2.2.2.1, hok.2.2.2.2.2.2.2.2.1, hok.2.2.2.2.2.2.2.2.2⟩) rfl).mono (by omega)⟩
        --@end
      · --@c6
        go_wp2_with fail
        with_reducible refine (pick_at S _ [-1, 4321440, 4321441, 5000000000000000, 5000000000000001] 5 _ _ _ _ s2 (by omega) rfl (by omega) (by omega) (by simp) (by simp)).mono ?_
        rintro e w3 ⟨r, hm, rfl, kk, s3⟩
        have hr : -1 ≤ r ∧ r ≤ 5000000000000001 := by
          simp only [List.mem_cons, List.mem_nil_iff, or_false] at hm
          omega
        clear hm
        have HL := Lib.hid (HA.out.draw kk s3)
        clear kk HA s2
        have f1 := HL.out.bx.cell 7 (.int .i64 number) rfl
        have f2 := HL.out.bx.free 7
        have f3 := HL.out.bx.lt
        go_wp2_with fail
        go_meet
        exact ⟨d + 1, .mk ⟨kind, name, field, sign, va, vc, vals, wa, wc9, whs, within, r, aa, ac⟩ args, by omega, Nat.le_trans (Nat.le_of_eq szN_sc) (Nat.le_add_right _ _), (HL.out.scal (n' := ⟨kind, name, field, sign, va, vc, vals, wa, wc9, whs, within, r, aa, ac⟩) 7 (.int .i64 r) ⟨rfl, rfl, rfl, rfl, rfl, rfl⟩ (⟨hok.1, hok.2.1, hok.2.2.1, hok.2.2.2.1, hok.2.2.2.2.1, hok.2.2.2.2.2.1, hok.2.2.2.2.2.2.1, by unfold i64B; simp only; omega, hok.2.2.2.2.2.2.2.2.1, hok.2.2.2.2.2.2.2.2.2⟩) rfl).mono (by omega)⟩
        --@end
      · --@c7
        obtain ⟨i0, hi, hz0, hz1, hz2⟩ := info_parts infoWhere
        have h1000 : whs.length ≤ 1000 := hok.2.2.2.2.2.1.2.2
        have y5 := HA.out.bx.cell 5 (.slice wa whs.length wc9) rfl
        have yl := HA.out.bx.lt
        have CL := Lib.hid (fun n hn => cloneWh_any wa whs n wc9 wq hn (by omega) HA.out.tr.2.2.2.1)
        go_wp2_with fail
        with_reducible refine (CL.out _ rfl).mono ?_
        rintro e w3 ⟨v, rfl, own, hb⟩
        have HL3 := Lib.hid (HA.out.clone own hb)
        clear own hb CL HA s2 y5 yl
        have s3 := HL3.out.sb.mkk.st
        have hvl : whs.length ≤ 100 := HSM.out.2.1
        have HLEN := Lib.hid hvl
        go_wp2_with fail
        with_reducible refine (one_at S _ [⟨#[99, 101, 110, 116, 115]⟩, ⟨#[]⟩, ⟨#[105, 110]⟩] 3 _ _ _ _ s3 (by omega) rfl (by omega) (by omega) (by simp) (by simp)).mono ?_
        rintro e w4 ⟨x, hm, rfl, kk, s4⟩
        have hx : x.size ≤ 1000 := mem_size hm (by decide)
        clear hm
        have HL4 := Lib.hid (HL3.out.draw kk s4)
        clear kk HL3 s3
        go_wp2_with fail
        with_reducible refine (one_at S _ [⟨#[61]⟩, ⟨#[126]⟩] 2 _ _ _ _ s4 (by omega) rfl (by omega) (by omega) (by simp) (by simp)).mono ?_
        rintro e w5 ⟨sg, hm, rfl, kk, s5⟩
        have hsg : sg.size ≤ 1000 := mem_size hm (by decide)
        clear hm
        have HL5 := Lib.hid (HL4.out.draw kk s5)
        clear kk HL4 s4
        go_wp2_with fail
        with_reducible refine (range_any S _ 0 3 _ s5 (by omega) (by omega) (by omega) (by omega)).mono ?_
        rintro e w6 ⟨r, ⟨hr0, hr1⟩, rfl, kk, s6⟩
        have HL6 := Lib.hid (HL5.out.draw kk s6)
        clear kk HL5 s5
        have own5 := HL6.out.own
        have hbs5 := HL6.out.bs
        go_wp2_with (at_builtin; refine wpList_append_own _ rfl _ _ 27 rfl wq.heap.size 98 i0 _ 5 64 Tryz.underlying27 hi hz0 hz1 hz2 rfl (by decide) _ _ _ rfl (own5.alloc _) ⟨w6.heap.size, 0, none⟩ 1 1 [.string x, .string sg, .int .i64 r, .string ⟨#[]⟩, .int .i64 0] rfl rfl ?k1 ?k2 ?k3 ?k4 ?k5 ?_)
        case k1 => exact cells_new w6 #[.string x, .string sg, .int .i64 r, .string ⟨#[]⟩, .int .i64 0] 98
        case k2 => simp [Value.oneCell']
        case k3 => unfold maxLen; omega
        case k4 => omega
        case k5 => simp; omega
        intro v2 wy owny hgrowy hney
        obtain ⟨a2, cap2, rfl, f1, f2, f3, hS⟩ := (HL6.out.alloc _).whs (x := ⟨x, sg, ⟨r, ⟨#[]⟩, 0⟩⟩) ⟨hx, hsg, by unfold i64B; simp only; omega, (by decide : (⟨#[]⟩ : ByteArray).size ≤ 10), by unfold i64B; simp only; omega⟩ HLEN.out owny hgrowy
        have HS := Lib.hid hS
        clear hS hney owny hgrowy own5 hbs5 HL6
        go_wp2_with fail
        go_meet
        exact ⟨d + 1, .mk ⟨kind, name, field, sign, va, vc, vals, a2, cap2, (whs ++ [⟨x, sg, ⟨r, ⟨#[]⟩, 0⟩⟩]), within, number, aa, ac⟩ args, by omega, Nat.le_trans (Nat.le_of_eq szN_sc) (Nat.le_add_right _ _), (HS.out.mono (by omega))⟩
        --@end
      · --@c8
        go_wp2_with fail
        with_reducible refine (pick_at S _ [1, 19, 20] 3 _ _ _ _ s2 (by omega) rfl (by omega) (by omega) (by simp) (by simp)).mono ?_
        rintro e w3 ⟨r, hm, rfl, kk, s3⟩
        have hr : 1 ≤ r ∧ r ≤ 20 := by
          simp only [List.mem_cons, List.mem_nil_iff, or_false] at hm
          omega
        clear hm
        have HL := Lib.hid (HA.out.draw kk s3)
        clear kk HA s2
        obtain ⟨m, rfl⟩ := Int.eq_ofNat_of_zero_le (show 0 ≤ r by omega)
        have hm20 : m ≤ 20 := by omega
        clear hr s3
        go_wp2_with fail
        go_loopw [41] (fun i wr => ∃ (k : Nat) (c1 : Cn), k ≤ m ∧ i = .int .i64 k ∧ szN (d + 1 + k) c1 ≤ szN (d + 1) (.mk ⟨kind, name, field, sign, va, vc, vals, wa, wc9, whs, within, number, aa, ac⟩ args) + k ∧ Sb w S q3 q4 (d + 1) (.mk ⟨kind, name, field, sign, va, vc, vals, wa, wc9, whs, within, number, aa, ac⟩ args) (d + 1 + k) c1 (K + 10) wr) (fun i _ => m - (intOf i).toNat)
        case atStart => exact ⟨0, (.mk ⟨kind, name, field, sign, va, vc, vals, wa, wc9, whs, within, number, aa, ac⟩ args), Nat.zero_le _, rfl, Nat.le_refl _, HL.out.mono (by omega)⟩
        case round =>
          obtain ⟨k, c1, hk, rfl, hsz, hS⟩ := hrel
          have HS := Lib.hid hS
          clear hS HL
          by_cases hlt : k < m
          · have hsl : szN (d + 1 + (k + 1)) (notC c1 wr.heap.size) ≤ szN (d + 1) (.mk ⟨kind, name, field, sign, va, vc, vals, wa, wc9, whs, within, number, aa, ac⟩ args) + (k + 1) := by
              rw [show d + 1 + (k + 1) = (d + 1 + k) + 1 from rfl, notC_szN]
              omega
            have HSZ := Lib.hid hsl
            clear hsl hsz
            have y0 := HS.out.bx.cell 0 (.int .i64 c1.nd.kind) rfl
            have y1 := HS.out.bx.cell 1 (.string c1.nd.name) rfl
            have y2 := HS.out.bx.cell 2 (.string c1.nd.field) rfl
            have y3 := HS.out.bx.cell 3 (.string c1.nd.sign) rfl
            have y4 := HS.out.bx.cell 4 (.slice c1.nd.va c1.nd.vals.length c1.nd.vc) rfl
            have y5 := HS.out.bx.cell 5 (.slice c1.nd.wa c1.nd.whs.length c1.nd.wc) rfl
            have y6 := HS.out.bx.cell 6 (.int .i64 c1.nd.within) rfl
            have y7 := HS.out.bx.cell 7 (.int .i64 c1.nd.number) rfl
            have y8 := HS.out.bx.cell 8 (.slice c1.nd.aa c1.args.length c1.nd.ac) rfl
            have yl := HS.out.bx.lt
            go_wp2_with (refine wpList_store_oc _ rfl _ _ _ rfl q3 _ [.int .i64 5, .string ⟨#[]⟩, .string ⟨#[]⟩, .string ⟨#[]⟩, .slice none 0 0, .slice none 0 0, .int .i64 0, .int .i64 0, .slice (some ⟨wr.heap.size, 0, none⟩) 1 1] _ rfl rfl (HS.out.bx.alloc _) sizeCond rfl rfl ?_)
            intro w9 o9 k9
            have HW := Lib.hid ((HS.out.alloc (.cells c1.cells.toArray 30)).wrap (OB.new wr c1.cells 30) HS.out.mkk.ob.lt o9 k9)
            clear o9 k9 y0 y1 y2 y3 y4 y5 y6 y7 y8 yl HS
            go_wp2_with fail
            go_roundw
            case rel => exact ⟨k + 1, _, by omega, by go_num, HSZ.out, HW.out⟩
            case measure => simp [intOf]; omega
          · obtain rfl : k = m := by omega
            go_wp2_with fail
            go_meet
            exact ⟨_, c1, by omega, by omega, HS.out⟩
        --@end
    case rest =>
    obtain ⟨d1, c1, hd1, hsz1, hS⟩ := hcut
    have HS := Lib.hid hS
    clear hS s2 HA hz0' hz2'
    have y0 := HS.out.bx.cell 0 (.int .i64 c1.nd.kind) rfl
    have y1 := HS.out.bx.cell 1 (.string c1.nd.name) rfl
    have y2 := HS.out.bx.cell 2 (.string c1.nd.field) rfl
    have y3 := HS.out.bx.cell 3 (.string c1.nd.sign) rfl
    have y4 := HS.out.bx.cell 4 (.slice c1.nd.va c1.nd.vals.length c1.nd.vc) rfl
    have y5 := HS.out.bx.cell 5 (.slice c1.nd.wa c1.nd.whs.length c1.nd.wc) rfl
    have y6 := HS.out.bx.cell 6 (.int .i64 c1.nd.within) rfl
    have y7 := HS.out.bx.cell 7 (.int .i64 c1.nd.number) rfl
    have y8 := HS.out.bx.cell 8 (.slice c1.nd.aa c1.args.length c1.nd.ac) rfl
    have yl := HS.out.bx.lt
    go_wp2_with (refine wpList_store_oc _ rfl _ _ _ rfl q4 _ [.int .i64 c1.nd.kind, .string c1.nd.name, .string c1.nd.field, .string c1.nd.sign, .slice c1.nd.va c1.nd.vals.length c1.nd.vc, .slice c1.nd.wa c1.nd.whs.length c1.nd.wc, .int .i64 c1.nd.within, .int .i64 c1.nd.number, .slice c1.nd.aa c1.args.length c1.nd.ac] _ rfl rfl HS.out.mkk.ob sizeCond rfl rfl ?_)
    intro wz oz kz
    have r0 := oz.cell 0 _ rfl
    have r1 := oz.cell 1 _ rfl
    have r2 := oz.cell 2 _ rfl
    have r3 := oz.cell 3 _ rfl
    have r4 := oz.cell 4 _ rfl
    have r5 := oz.cell 5 _ rfl
    have r6 := oz.cell 6 _ rfl
    have r7 := oz.cell 7 _ rfl
    have r8 := oz.cell 8 _ rfl
    have HOz := Lib.hid oz
    have HKz := Lib.hid kz
    clear oz kz y0 y1 y2 y3 y4 y5 y6 y7 y8 yl
    go_wp2_with fail
    refine bodyPost_ret (v := .agg #[.int .i64 c1.nd.kind, .string c1.nd.name, .string c1.nd.field, .string c1.nd.sign, .slice c1.nd.va c1.nd.vals.length c1.nd.vc, .slice c1.nd.wa c1.nd.whs.length c1.nd.wc, .int .i64 c1.nd.within, .int .i64 c1.nd.number, .slice c1.nd.aa c1.args.length c1.nd.ac]) (by simp [results, Tryz.results27, go_sem, r0, r1, r2, r3, r4, r5, r6, r7, r8]) rfl ?_
    exact (HS.out.up hd1).gen HKz.out HOz.out (by omega) (by rw [szN_mono HS.out.tr hd1]; have := HZL.out; omega)
theorem spoil_any (S : SC) : ∀ (d : Nat) (c : Cn) (K : Nat) (w : World), TAt d w c → FarT d c S.g → smT d c → Strm w S K → K + 3 * d ≤ 100000 → Calls Tryz.prog 27 #[S.p, c.agg] w (GenSp S (K + 3 * d + 20) w d c (d + 20) ((d + 1) * szN d c + 20))
  | 0, _, _, _, h, _, _, _, _ => h.elim
  | d + 1, .mk ⟨kind, name, field, sign, va, vc, vals, wa, wc, whs, within, number, aa, ac⟩ args, K, w, h1, h2, h3, h4, h5 =>
    spoil_succ S d (fun c K w => spoil_any S d c K w) kind name field sign va vc vals wa wc whs within number aa ac args K w h1 h2 h3 h4 h5
end Go.Proofs.YtfdpfkdfglombaaGreatDoor
