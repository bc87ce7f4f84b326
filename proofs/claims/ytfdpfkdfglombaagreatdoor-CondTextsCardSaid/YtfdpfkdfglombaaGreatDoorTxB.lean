/- Where and within, as the reference writes them: handref1.whereText (printed by gen_txwh.py). -/
import Derived.Test.YtfdpfkdfglombaaGreatDoorTxA
import Derived.Test.YtfdpfkdfglombaaGreatDoorSgC
import Derived.Deep.RegionHeld3
set_option linter.unusedVariables false
namespace Go.Proofs.YtfdpfkdfglombaaGreatDoor
open Go.RowKit

theorem wrG_drop (l : List Wh) (k : Nat) (o : ByteArray) (h : k < l.length) : wrG (l.drop k) k o = wrG (l.drop (k + 1)) (k + 1) ((if k = 0 then o ++ ⟨#[32, 119, 104, 101, 114, 101, 32, 40]⟩ else o ++ ⟨#[44, 32]⟩) ++ whX l[k]) := by
  rw [List.drop_eq_getElem_cons h]; rfl
theorem szA (a b : ByteArray) (m n : Nat) (h1 : a.size ≤ m) (h2 : b.size ≤ n) : (a ++ b).size ≤ m + n := by rw [ap_size]; omega
theorem spB_size (n : Int) (h0 : 0 ≤ n) (h1 : n ≤ 4321440) : (spB n).size ≤ 29 := by
  unfold spB
  split
  · have h := itB_size (n := n / 1440) (by unfold i64B; omega)
    rw [ap_size]
    show _ + 5 ≤ _
    omega
  · split
    · have h := itB_size (n := n / 60) (by unfold i64B; omega)
      rw [ap_size]
      show _ + 6 ≤ _
      omega
    · have h := itB_size (n := n) (by unfold i64B; omega)
      rw [ap_size]
      show _ + 8 ≤ _
      omega
set_option maxHeartbeats 16000000 in
set_option maxRecDepth 100000 in
theorem whereText_any (x : Nd) (na : Nat) (w : World) (hok : x.ok) (hW : RAt w x.wa 5 Wh.cells x.whs) (hr : ∀ y ∈ x.whs, vlE y.val = 0) (h0 : 0 ≤ x.within) (h1 : x.within ≤ 4321440) (htab : P10x w) :
    Calls Tryz.prog 49 #[.agg #[.int .i64 x.kind, .string x.name, .string x.field, .string x.sign, .slice x.va x.vals.length x.vc, .slice x.wa x.whs.length x.wc, .int .i64 x.within, .int .i64 x.number, .slice x.aa na x.ac]] w (TxtO w (wrB x)) := by
  obtain ⟨o1, o2, o3, o4, ⟨o5, o6, o7⟩, ⟨o8, o9, o10⟩, o11, o12, o13, o14⟩ := hok
  have HR := Lib.hid (show wrB x = if 0 < x.within then wr1 x ++ (⟨#[32, 119, 105, 116, 104, 105, 110, 32]⟩ ++ spB x.within) else wr1 x from rfl)
  have HR1 := Lib.hid (show wr1 x = if x.whs.length = 0 then ⟨#[]⟩ else wrG x.whs 0 ⟨#[]⟩ ++ ⟨#[41]⟩ from rfl)
  have HWO := Lib.hid o14
  have HVR := Lib.hid hr
  have HW := Lib.hid hW
  have CS := Lib.hid (fun w h => spanR_any x.within h0 h1 w h)
  have hsp := spB_size x.within h0 h1
  clear o1 o2 o3 o4 o11 o12 o13 o14 hW hr
  generalize wrB x = R at *
  generalize wr1 x = R1 at *
  obtain ⟨kind, name, field, sign, va, vc, vals, wa, wc, whs, within, number, aa, ac⟩ := x
  simp only at *
  generalize spB within = sp at *
  obtain ⟨nv, hnv⟩ : ∃ z, vals.length = z := ⟨_, rfl⟩
  obtain ⟨nw, hnw⟩ : ∃ z, whs.length = z := ⟨_, rfl⟩
  rw [hnv] at o5 o7
  rw [hnw] at o8 o10 HR1
  rw [hnv, hnw]
  have HNW := Lib.hid hnw
  clear hnv hnw
  have HX := Lib.hid (XB.new w [.int .i64 kind, .string name, .string field, .string sign, .slice va nv vc, .slice wa nw wc, .int .i64 within, .int .i64 number, .slice aa na ac] 30)
  have HB := Lib.hid ((Below.refl w.heap.size w).alloc (Nat.le_refl _) (.cells #[.int .i64 kind, .string name, .string field, .string sign, .slice va nv vc, .slice wa nw wc, .int .i64 within, .int .i64 number, .slice aa na ac] 30))
  have HP := Lib.hid (p10x_below htab HB.out)
  have HW0 := Lib.hid (HW.out.below HB.out)
  obtain ⟨G, hG⟩ : ∃ z, wrG whs 0 ⟨#[]⟩ = z := ⟨_, rfl⟩
  rw [hG] at HR1
  have HG0 : Hid (wrG (whs.drop 0) 0 ⟨#[]⟩ = G) := Lib.hid hG
  clear hG htab
  simp only [List.toArray] at HX
  go_enter Tryz.func49, Tryz.ntmps49
  go_upto_region 2 with (fail)
  generalize w.alloc (.cells #[.int .i64 kind, .string name, .string field, .string sign, .slice va nv vc, .slice wa nw wc, .int .i64 within, .int .i64 number, .slice aa na ac] 30) = w0 at *
  obtain ⟨q0, hq0⟩ : ∃ z, w.heap.size = z := ⟨_, rfl⟩
  rw [hq0] at HX ⊢
  have HQ0 := Lib.hid hq0
  clear hq0
  have x5 := HX.out.2 5 _ rfl
  have xl := HX.out.1
  go_wp2_with fail
  clear x5 xl
  go_loopw [3, 9] (fun u i wr => ∃ (k : Nat) (s : ByteArray), k ≤ nw ∧ i = .int .i64 k ∧ u = .string s ∧ s.size ≤ 7000 * k ∧ Below w0.heap.size w0 wr ∧ Hid (wrG (whs.drop k) k s = G)) (fun _ i _ => nw - (intOf i).toNat)
  case atStart => exact ⟨0, ⟨#[]⟩, Nat.zero_le _, rfl, rfl, Nat.zero_le _, Below.refl _ _, HG0⟩
  case round =>
    obtain ⟨k, s, hk, rfl, rfl, hs, hBr, HGk⟩ := hrel
    have HBr := Lib.hid hBr
    clear hBr
    by_cases hlt : k < nw
    · have hkl : k < whs.length := by have := HNW.out; omega
      obtain ⟨pw, offw, rfl, hpw, d0, d1, d2, d3, d4⟩ := (HW0.out.below HBr.out).at5w hkl
      have hyo := HWO.out whs[k] (List.getElem_mem hkl)
      have hyr := vl_right (HVR.out whs[k] (List.getElem_mem hkl))
      have HGd := Lib.hid (HGk.out.symm.trans (wrG_drop whs k s hkl))
      have hwx : whX whs[k] = whs[k].field ++ ⟨#[32]⟩ ++ whs[k].sign ++ ⟨#[32]⟩ ++ vtB whs[k].val := rfl
      have hvs := vtB_size hyo.2.2
      have CV0 := Lib.hid (fun w h => valueTextR_any whs[k].val w hyo.2.2 hyr.2.1 h)
      rw [hwx] at HGd
      generalize vtB whs[k].val = vt at *
      generalize whs[k] = y at *
      obtain ⟨yf, ys, yv⟩ := y
      obtain ⟨yk, yt, yn⟩ := yv
      simp only at d0 d1 d2 d3 d4 hyo CV0 HGd hvs
      have hyf : yf.size ≤ 1000 := hyo.1
      have hys : ys.size ≤ 1000 := hyo.2.1
      have hyt : yt.size ≤ 1000 := Nat.le_trans hyo.2.2.2.1 (by decide)
      have hss : s.size ≤ 7000000 := by omega
      clear hyo hyr hwx
      have HBb := Lib.hid (HBr.out.alloc HBr.out.size (.cells #[.string yf, .string ys, .int .i64 yk, .string yt, .int .i64 yn] 98))
      have HXw := Lib.hid (XB.new wr [.string yf, .string ys, .int .i64 yk, .string yt, .int .i64 yn] 98)
      have HPb := Lib.hid (p10x_below HP.out HBb.out)
      simp only [List.toArray] at HXw
      go_upto_region 5 with (fail)
      generalize wr.alloc (.cells #[.string yf, .string ys, .int .i64 yk, .string yt, .int .i64 yn] 98) = wb at *
      generalize wr.heap.size = qw at *
      have CV := Lib.hid (fun w' (h : Below wb.heap.size wb w') => CV0.out w' (p10x_below HPb.out h))
      have K0 := Lib.hid (fun w' (hb : Below wb.heap.size wb w') => (show (w'.cell? ⟨qw, 0, none⟩ = some (.string yf) ∧ w'.cell? ⟨qw, 1, none⟩ = some (.string ys) ∧ w'.cell? ⟨qw, 2, none⟩ = some (.int .i64 yk) ∧ w'.cell? ⟨qw, 3, none⟩ = some (.string yt) ∧ w'.cell? ⟨qw, 4, none⟩ = some (.int .i64 yn)) ∧ Below wb.heap.size wb w' from ⟨⟨(HXw.out.below hb).2 0 _ rfl, (HXw.out.below hb).2 1 _ rfl, (HXw.out.below hb).2 2 _ rfl, (HXw.out.below hb).2 3 _ rfl, (HXw.out.below hb).2 4 _ rfl⟩, hb⟩))
      clear d0 d1 d2 d3 d4 HXw HPb CV0 HBr
      have hz1 : ¬ (9223372036854775807 < yf.size + 1) := by omega
      have hz2 : ¬ (9223372036854775807 < yf.size + 1 + ys.size) := by omega
      have hz3 : ¬ (9223372036854775807 < yf.size + 1 + ys.size + 1) := by omega
      have hz4 : ¬ (9223372036854775807 < yf.size + 1 + ys.size + 1 + vt.size) := by omega
      by_cases hk0 : k = 0
      · subst hk0
        have hz5 : ¬ (9223372036854775807 < s.size + 8 + (yf.size + 1 + ys.size + 1 + vt.size)) := by omega
        have HGn : Hid (wrG (whs.drop (0 + 1)) (0 + 1) (s ++ ⟨#[32, 119, 104, 101, 114, 101, 32, 40]⟩ ++ (yf ++ ⟨#[32]⟩ ++ ys ++ ⟨#[32]⟩ ++ vt)) = G) := Lib.hid (by have h := HGd.out; rw [if_pos rfl] at h; exact h.symm)
        have HSZ : Hid ((s ++ ⟨#[32, 119, 104, 101, 114, 101, 32, 40]⟩ ++ (yf ++ ⟨#[32]⟩ ++ ys ++ ⟨#[32]⟩ ++ vt)).size ≤ 7000 * (0 + 1)) := Lib.hid (by simp only [ap_size]; show _ + 8 + (_ + 1 + _ + 1 + _) ≤ _; omega)
        clear HGd HGk
        go_upto_region 8 with (fail)
        go_region_held3 (fun w' => (w'.cell? ⟨qw, 0, none⟩ = some (.string yf) ∧ w'.cell? ⟨qw, 1, none⟩ = some (.string ys) ∧ w'.cell? ⟨qw, 2, none⟩ = some (.int .i64 yk) ∧ w'.cell? ⟨qw, 3, none⟩ = some (.string yt) ∧ w'.cell? ⟨qw, 4, none⟩ = some (.int .i64 yn)) ∧ Below wb.heap.size wb w')
          (first | assumption | (exact K0.out _ (Below.refl _ _).drew) | (refine K0.out _ (Below.trans (And.right (by assumption)) (hb.mono ?_)); exact (And.right (by assumption) : Below _ _ _).size))
          (first | (go_at_call 48; (with_reducible refine (CV.out _ (And.right (by assumption))).mono ?_); rintro e w' ⟨rfl, hb⟩))
        all_goals
          have hE : Below wb.heap.size wb _ := And.right (by assumption)
          have HE := Lib.hid (HBb.out.trans (hE.mono HBb.out.size))
          clear K0
          go_wp2_with fail
          go_roundw
          case rel => exact ⟨0 + 1, _, by omega, by go_num, rfl, HSZ.out, HE.out, HGn⟩
          case measure => simp [intOf]; omega
      · have hA : ((k : Int) == 0) = false := by simp; omega
        have hz5 : ¬ (9223372036854775807 < s.size + 2 + (yf.size + 1 + ys.size + 1 + vt.size)) := by omega
        have HGn : Hid (wrG (whs.drop (k + 1)) (k + 1) (s ++ ⟨#[44, 32]⟩ ++ (yf ++ ⟨#[32]⟩ ++ ys ++ ⟨#[32]⟩ ++ vt)) = G) := Lib.hid (by have h := HGd.out; rw [if_neg hk0] at h; exact h.symm)
        have HSZ : Hid ((s ++ ⟨#[44, 32]⟩ ++ (yf ++ ⟨#[32]⟩ ++ ys ++ ⟨#[32]⟩ ++ vt)).size ≤ 7000 * (k + 1)) := Lib.hid (by simp only [ap_size]; show _ + 2 + (_ + 1 + _ + 1 + _) ≤ _; omega)
        clear HGd HGk hk0
        go_upto_region 8 with (fail)
        go_region_held3 (fun w' => (w'.cell? ⟨qw, 0, none⟩ = some (.string yf) ∧ w'.cell? ⟨qw, 1, none⟩ = some (.string ys) ∧ w'.cell? ⟨qw, 2, none⟩ = some (.int .i64 yk) ∧ w'.cell? ⟨qw, 3, none⟩ = some (.string yt) ∧ w'.cell? ⟨qw, 4, none⟩ = some (.int .i64 yn)) ∧ Below wb.heap.size wb w')
          (first | assumption | (exact K0.out _ (Below.refl _ _).drew) | (refine K0.out _ (Below.trans (And.right (by assumption)) (hb.mono ?_)); exact (And.right (by assumption) : Below _ _ _).size))
          (first | (go_at_call 48; (with_reducible refine (CV.out _ (And.right (by assumption))).mono ?_); rintro e w' ⟨rfl, hb⟩))
        all_goals
          have hE : Below wb.heap.size wb _ := And.right (by assumption)
          have HE := Lib.hid (HBb.out.trans (hE.mono HBb.out.size))
          clear K0
          go_wp2_with fail
          go_roundw
          case rel => exact ⟨k + 1, _, by omega, by go_num, rfl, HSZ.out, HE.out, HGn⟩
          case measure => simp [intOf]; omega
    · obtain rfl : k = nw := by omega
      have HGe : Hid (s = G) := Lib.hid (by rw [← HGk.out, List.drop_eq_nil_of_le (by have := HNW.out; omega)]; rfl)
      obtain rfl := HGe.out
      have hss : s.size ≤ 7000000 := by omega
      have HBe := Lib.hid (HB.out.trans (HBr.out.mono HB.out.size))
      have HXe := Lib.hid (HX.out.below HBr.out)
      have HPe := Lib.hid (p10x_below HP.out HBr.out)
      have x5 := HXe.out.2 5 _ rfl
      have x6 := HXe.out.2 6 _ rfl
      have xl := HXe.out.1
      clear HGk HGe HG0 HX HB HBr
      have fin : ∀ (s1 : ByteArray), Hid (R1 = s1) → Hid (R = if 0 < within then s1 ++ (⟨#[32, 119, 105, 116, 104, 105, 110, 32]⟩ ++ sp) else s1) := fun s1 h => Lib.hid (by rw [HR.out, h.out])
      have FIN := Lib.hid fin
      clear fin HR
      by_cases hn0 : k = 0
      · subst hn0
        have HF := FIN.out _ (Lib.hid (HR1.out.trans (if_pos rfl)))
        have hs0 : s = ⟨#[]⟩ := ba_ext (List.eq_nil_of_length_eq_zero (by have e : s.data.toList.length = s.size := rfl; omega))
        subst hs0
        clear HR1 FIN
        by_cases hw : 0 < within
        · have hA1 : decide (0 < within) = true := decide_eq_true hw
          have HF1 := Lib.hid (HF.out.trans (if_pos hw))
          clear HF hw
          go_wp2_with fail
          ((with_reducible refine (CS.out _ HPe.out).mono ?_); rintro e w1 ⟨rfl, hb⟩)
          have HB1 := Lib.hid (HBe.out.trans (hb.mono HBe.out.size))
          clear hb
          go_wp2_with fail
          go_ret
          exact ⟨ret_strX HF1.out.symm, by have h := HB1.out; exact h⟩
        · have hA1 : decide (0 < within) = false := decide_eq_false hw
          have HF1 := Lib.hid (HF.out.trans (if_neg hw))
          clear HF hw
          go_wp2_with fail
          go_ret
          exact ⟨ret_strX HF1.out.symm, by have h := HBe.out; exact h⟩
      · have hkp : 0 < k := by omega
        have hA0 : decide (0 < k) = true := decide_eq_true hkp
        have HF := FIN.out _ (Lib.hid (HR1.out.trans (if_neg hn0)))
        clear HR1 FIN hn0
        by_cases hw : 0 < within
        · have hA1 : decide (0 < within) = true := decide_eq_true hw
          have HF1 := Lib.hid (HF.out.trans (if_pos hw))
          clear HF hw
          go_wp2_with fail
          ((with_reducible refine (CS.out _ HPe.out).mono ?_); rintro e w1 ⟨rfl, hb⟩)
          have HB1 := Lib.hid (HBe.out.trans (hb.mono HBe.out.size))
          clear hb
          go_wp2_with fail
          go_ret
          exact ⟨ret_strX HF1.out.symm, by have h := HB1.out; exact h⟩
        · have hA1 : decide (0 < within) = false := decide_eq_false hw
          have HF1 := Lib.hid (HF.out.trans (if_neg hw))
          clear HF hw
          go_wp2_with fail
          go_ret
          exact ⟨ret_strX HF1.out.symm, by have h := HBe.out; exact h⟩
end Go.Proofs.YtfdpfkdfglombaaGreatDoor
/- How long the text of a right condition is, and what its walk needs to know of it. -/
set_option linter.unusedVariables false
namespace Go.Proofs.YtfdpfkdfglombaaGreatDoor
open Go.RowKit

/-- a right condition, without those in it -/
structure TxN (n : Nd) (na : Nat) : Prop where
  k1 : 1 ≤ n.kind
  k2 : n.kind ≤ 14
  v1 : n.kind = 7 ∨ n.kind = 9 ∨ n.kind = 10 → 1 ≤ n.vals.length
  vr : ∀ v ∈ n.vals, vlE v = 0
  wr : ∀ y ∈ n.whs, vlE y.val = 0
  wi : 0 ≤ n.within ∧ n.within ≤ 4321440
  nu : n.kind = 13 → 0 ≤ n.number ∧ n.number ≤ 4321440
  a1 : n.kind = 5 → 1 ≤ na
  sz : (ndB n).size ≤ 606
def TxO : Nat → Cn → Prop
  | 0, _ => False
  | d + 1, c => TxN c.nd c.args.length ∧ ∀ x ∈ c.args, TxO d x

theorem sgn_size {s : ByteArray} (h : hasS sgnL s = true) : s.size ≤ 2 := by
  unfold hasS at h
  obtain ⟨x, hx, e⟩ := List.any_eq_true.1 h
  have e1 : x.data.toList = s.data.toList := by simpa using e
  have e2 : x = s := ba_ext e1
  rw [← e2]
  unfold sgnL at hx
  simp only [List.mem_cons, List.mem_nil_iff, or_false] at hx
  rcases hx with rfl | rfl | rfl | rfl | rfl | rfl <;> decide
theorem nmB_size {s : ByteArray} (h : nmB s = true) : s.size ≤ 40 := by
  unfold nmB keyB at h
  simp only [Bool.and_eq_true, decide_eq_true_eq] at h
  exact h.1.1.1.2
theorem vt_right {v : Vl} (hok : v.ok) (h : vlE v = 0) : (vtB v).size ≤ 42 := by
  have hq := quB_size v.text
  have ht := hok.2.1
  have hi := itB_size hok.2.2
  unfold vtB
  split
  · omega
  · split
    · split
      · show 3 ≤ 42; omega
      · show 2 ≤ 42; omega
    · split
      · rw [ap_size]; show 1 + _ ≤ _; omega
      · omega
theorem whX_right {y : Wh} (hok : y.ok) (h : whE y = 0) : (whX y).size ≤ 86 ∧ vlE y.val = 0 := by
  unfold whE at h
  split at h
  · cases h
  rename_i h1
  split at h
  · cases h
  rename_i h2
  have h1 := nmB_size (s := y.field) (by simpa using h1)
  have h2 := sgn_size (s := y.sign) (by simpa using h2)
  have h3 := vt_right hok.2.2 h
  refine ⟨?_, h⟩
  show (y.field ++ ⟨#[32]⟩ ++ y.sign ++ ⟨#[32]⟩ ++ vtB y.val).size ≤ 86
  rw [ap_size, ap_size, ap_size, ap_size]
  show _ + 1 + _ + 1 + _ ≤ _
  omega
theorem TxN_of {n : Nd} {na : Nat} (hok : n.ok) (h0 : ndE n na = 0) : TxN n na := by
  unfold ndE at h0
  split at h0
  · cases h0
  rename_i hk
  split at h0
  · cases h0
  rename_i hf
  split at h0
  · cases h0
  rename_i hn
  split at h0
  · cases h0
  rename_i hs
  split at h0
  · rename_i hv; exact absurd h0 hv
  rename_i hv
  split at h0
  · cases h0
  split at h0
  · rename_i hv; exact absurd h0 hv
  rename_i hw
  split at h0
  · cases h0
  rename_i hr
  have hf : frmB n na = true := by simpa using hf
  unfold frmB at hf
  simp only [Bool.and_eq_true, decide_eq_true_eq, Bool.not_eq_true', Bool.or_eq_false_iff, Bool.and_eq_false_iff, Bool.not_eq_false'] at hf
  obtain ⟨⟨⟨⟨⟨⟨⟨f1, f2⟩, f3⟩, f4⟩, f5⟩, f6, f6'⟩, f7, f7'⟩, f8⟩ := hf
  have hv := fstE_zero vlE n.vals (by simpa using hv)
  have hw := fstE_zero whE n.whs (by simpa using hw)
  have q1 : n.name.size ≤ 40 := by
    rcases f1 with f1 | f1
    · refine nmB_size ?_
      cases hb : nmB n.name with
      | true => rfl
      | false => exact absurd (Or.inl ⟨f1, hb⟩) hn
    · omega
  have q2 : n.field.size ≤ 40 := by
    rcases f2 with f2 | f2
    · refine nmB_size ?_
      cases hb : nmB n.field with
      | true => rfl
      | false => exact absurd (Or.inr ⟨f2, hb⟩) hn
    · omega
  have q3 : n.sign.size ≤ 2 := by
    rcases f3 with f3 | f3
    · refine sgn_size ?_
      cases hb : hasS sgnL n.sign with
      | true => rfl
      | false => exact absurd ⟨f3, hb⟩ hs
    · omega
  have q4 : n.whs.length ≤ 5 := by
    have : hiWh n.kind ≤ 5 := by unfold hiWh; split <;> omega
    omega
  have q5 : n.vals.length ≤ 10 := hok.2.2.2.2.1.2.2
  have okv := hok.2.2.2.2.2.2.2.2.1
  have okw := hok.2.2.2.2.2.2.2.2.2
  have q6 : (vtB (n.vals.getD 0 default)).size ≤ 42 := by
    cases hl : n.vals with
    | nil => exact Nat.le_trans (vtB_size (v := default) ⟨by unfold i64B; decide, by decide, by unfold i64B; decide⟩) (by decide)
    | cons x r => exact vt_right (okv x (by rw [hl]; simp)) (hv x (by rw [hl]; simp))
  have q7 : (jn ⟨#[44, 32]⟩ (n.vals.map vtB)).size ≤ 440 := by
    have := jn_le ⟨#[44, 32]⟩ (n.vals.map vtB) 42 (fun x hx => by
      obtain ⟨v, hv1, rfl⟩ := List.mem_map.1 hx
      exact vt_right (okv v hv1) (hv v hv1))
    rw [List.length_map] at this
    have e : (⟨#[44, 32]⟩ : ByteArray).size = 2 := rfl
    rw [e] at this
    omega
  have q8 : (whJ n.whs).size ≤ 440 := by
    have := jn_le ⟨#[44, 32]⟩ (n.whs.map whX) 86 (fun x hx => by
      obtain ⟨v, hv1, rfl⟩ := List.mem_map.1 hx
      exact (whX_right (okw v hv1) (hw v hv1)).1)
    rw [List.length_map] at this
    have e : (⟨#[44, 32]⟩ : ByteArray).size = 2 := rfl
    rw [e] at this
    exact Nat.le_trans this (by omega)
  have hwi : 0 ≤ n.within ∧ n.within ≤ 4321440 := by omega
  have hnu : n.kind = 13 → 0 ≤ n.number ∧ n.number ≤ 4321440 := fun h => by
    unfold loNu hiNu at hr
    rw [if_pos h, if_pos h] at hr
    omega
  refine ⟨by omega, by omega, fun h => ?_, hv, fun y hy => (whX_right (okw y hy) (hw y hy)).2, hwi, hnu, fun h => ?_, ?_⟩
  · have : loVs n.kind = 1 := by unfold loVs; rw [if_pos (by omega)]
    omega
  · have : loAs n.kind = 1 := by unfold loAs; rw [if_neg (by omega), if_pos h]
    omega
  · have e0 : (ev0 n).size ≤ 46 := by
      unfold ev0
      rw [ap_size]
      have : (if n.kind = 11 then (⟨#[99, 111, 117, 110, 116, 32]⟩ : ByteArray) else if n.kind = 12 then ⟨#[115, 117, 109, 32]⟩ else if n.kind = 13 then ⟨#[115, 105, 110, 99, 101, 32]⟩ else if n.kind = 14 then ⟨#[116, 104, 101, 110, 32]⟩ else ⟨#[]⟩).size ≤ 6 := by
        repeat' split
        all_goals decide
      omega
    have e1 : (ev1 n).size ≤ 87 := by
      unfold ev1
      repeat' split
      · rw [ap_size, ap_size]; show _ + (1 + _) ≤ _; omega
      · rw [ap_size, ap_size]; show _ + (1 + _) ≤ _; omega
      · omega
    have e2 : (ev2 n).size ≤ 536 := by
      unfold ev2
      split
      · omega
      · rw [ap_size, ap_size, ap_size]; show _ + (8 + _ + 1) ≤ _; omega
    have e3 : (ev3 n).size ≤ 573 := by
      unfold ev3
      have := spB_size n.within hwi.1 hwi.2
      split
      · rw [ap_size, ap_size]; show _ + (8 + _) ≤ _; omega
      · omega
    have e4 : (evB n).size ≤ 606 := by
      unfold evB
      split
      · rename_i h
        have := spB_size n.number (hnu h).1 (hnu h).2
        rw [ap_size, ap_size, ap_size, ap_size]; show _ + (1 + _ + 1 + _) ≤ _; omega
      · split
        · have := itB_size hok.2.2.2.2.2.2.2.1
          rw [ap_size, ap_size, ap_size, ap_size]; show _ + (1 + _ + 1 + _) ≤ _; omega
        · omega
    unfold ndB
    split
    · decide
    split
    · decide
    split
    · rw [ap_size]; show 4 + _ ≤ _; omega
    split
    · rw [ap_size, ap_size, ap_size, ap_size]; show _ + 1 + _ + 1 + _ ≤ _; omega
    split
    · rw [ap_size, ap_size]; show _ + 8 + _ ≤ _; omega
    split
    · rw [ap_size, ap_size]; show _ + 10 + _ ≤ _; omega
    split
    · rw [ap_size, ap_size, ap_size]; show _ + 5 + _ + 1 ≤ _; omega
    · exact e4
theorem TxO_of : ∀ (d : Nat) (w : World) (c : Cn), TAt d w c → trE d c = 0 → TxO d c
  | 0, _, _, h, _ => h.elim
  | d + 1, w, c, hT, h => by
    have h' : (if ndE c.nd c.args.length ≠ 0 then ndE c.nd c.args.length else fstE (trE d) c.args) = 0 := h
    have h0 : ndE c.nd c.args.length = 0 := by
      by_cases e : ndE c.nd c.args.length = 0
      · exact e
      · rw [if_pos e] at h'; exact absurd h' e
    rw [if_neg (by simpa using h0)] at h'
    have h9 := fstE_zero (trE d) c.args h'
    exact ⟨TxN_of hT.1 h0, fun x hx => TxO_of d w x (hT.2.2.2.2.2 x hx) (h9 x hx)⟩

theorem inB_size (k k' : Int) (s : ByteArray) : (inB k k' s).size ≤ s.size + 2 := by
  unfold inB
  split
  · rw [ap_size, ap_size]; show 1 + _ + 1 ≤ _; omega
  · omega
theorem lens_sum (l : List Cn) (f : Cn → ByteArray) (g : Cn → Nat) (h : ∀ x ∈ l, (f x).size + 5 ≤ 613 * g x) : Lib.lens ((l.map f).map (·.data.toList)) + 5 * l.length ≤ 613 * (l.map g).sum := by
  induction l with
  | nil => simp [Lib.lens]
  | cons x r ih =>
    have h1 := h x (by simp)
    have h2 := ih (fun y hy => h y (by simp [hy]))
    have e : (f x).data.toList.length = (f x).size := rfl
    simp only [List.map_cons, Lib.lens, List.length_cons, List.sum_cons] at *
    rw [Nat.mul_add]
    omega
theorem jn_sum (sep : ByteArray) (l : List Cn) (f : Cn → ByteArray) (g : Cn → Nat) (hs : sep.size ≤ 5) (h : ∀ x ∈ l, (f x).size + 5 ≤ 613 * g x) : (jn sep (l.map f)).size ≤ 613 * (l.map g).sum := by
  cases l with
  | nil => exact Nat.zero_le _
  | cons x r =>
    have h1 := lens_sum (x :: r) f g h
    rw [List.map_cons, jn_size, ← List.map_cons (f := f), List.length_map]
    have : sep.size * r.length ≤ 5 * r.length := Nat.mul_le_mul_right _ hs
    rw [List.length_cons] at h1
    omega
theorem txT_size : ∀ (d : Nat) (c : Cn), TxO d c → (txT d c).size + 7 ≤ 613 * szN d c
  | 0, _, h => h.elim
  | d + 1, c, ⟨h1, h2⟩ => by
    have ih := fun x hx => txT_size d x (h2 x hx)
    have iz : ∀ k, ∀ x ∈ c.args, (inB k x.nd.kind (txT d x)).size + 5 ≤ 613 * szN d x := fun k x hx => by
      have := ih x hx
      have := inB_size k x.nd.kind (txT d x)
      omega
    show _ ≤ 613 * (1 + (c.args.map (szN d)).sum)
    rw [Nat.mul_add]
    unfold txT
    split
    · rename_i h5
      have h6 := h1.a1 h5
      cases ha : c.args with
      | nil => rw [ha] at h6; simp at h6
      | cons x r =>
        have hx := iz 5 x (by rw [ha]; simp)
        rw [ap_size, List.map_cons, List.sum_cons, Nat.mul_add]
        show 4 + (inB 5 x.nd.kind (txT d x)).size + 7 ≤ _
        omega
    split
    · have := jn_sum ⟨#[32, 97, 110, 100, 32]⟩ c.args (fun x => inB 3 x.nd.kind (txT d x)) (szN d) (by decide) (iz 3)
      omega
    split
    · have := jn_sum ⟨#[32, 111, 114, 32]⟩ c.args (fun x => inB 4 x.nd.kind (txT d x)) (szN d) (by decide) (iz 4)
      omega
    · have := h1.sz
      omega
end Go.Proofs.YtfdpfkdfglombaaGreatDoor
