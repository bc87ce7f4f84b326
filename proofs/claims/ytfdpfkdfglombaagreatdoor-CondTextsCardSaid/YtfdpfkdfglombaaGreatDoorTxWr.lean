/- A condition without others in it, as segment.write writes it (printed by gen_txwr.py). -/
import Derived.Test.YtfdpfkdfglombaaGreatDoorTxEv
import Derived.Test.YtfdpfkdfglombaaGreatDoorTxB
import Derived.Test.YtfdpfkdfglombaaGreatDoorSgL
import Derived.Deep.RegionHeld3
import Derived.Deep.DeepCutAuto
set_option linter.unusedVariables false
namespace Go.Proofs.YtfdpfkdfglombaaGreatDoor
open Go.RowKit

/-- a value that lies there -/
structure VA (w : World) (p off : Nat) (yk : Int) (yt : ByteArray) (yn : Int) : Prop where
  lt : p < w.heap.size
  c0 : w.cell? ⟨p, off, none⟩ = some (.int .i64 yk)
  c1 : w.cell? ⟨p, off + 1, none⟩ = some (.string yt)
  c2 : w.cell? ⟨p, off + 2, none⟩ = some (.int .i64 yn)
theorem VA.bl {w w' : World} {p off : Nat} {yk : Int} {yt : ByteArray} {yn : Int} (h : VA w p off yk yt yn) (hb : Below w.heap.size w w') : VA w' p off yk yt yn :=
  ⟨Nat.lt_of_lt_of_le h.lt hb.size, (hb.cell (p := ⟨p, off, none⟩) h.lt).trans h.c0, (hb.cell (p := ⟨p, off + 1, none⟩) h.lt).trans h.c1, (hb.cell (p := ⟨p, off + 2, none⟩) h.lt).trans h.c2⟩
set_option maxHeartbeats 16000000 in
set_option maxRecDepth 100000 in
theorem wr1_any (x : Nd) (na : Nat) (w : World) (hok : x.ok) (hV : RAt w x.va 3 Vl.cells x.vals) (hW : RAt w x.wa 5 Wh.cells x.whs) (hn : TxN x na) (hk : x.kind = 1) (htab : P10x w) :
    Calls Tryz.prog 44 #[.agg #[.int .i64 x.kind, .string x.name, .string x.field, .string x.sign, .slice x.va x.vals.length x.vc, .slice x.wa x.whs.length x.wc, .int .i64 x.within, .int .i64 x.number, .slice x.aa na x.ac]] w (TxtO w (ndB x)) := by
  have HR := Lib.hid (show ndB x = ⟨#[97, 108, 108]⟩ from by unfold ndB; rw [hk]; rfl)
  have HB := Lib.hid ((Below.refl w.heap.size w).alloc (Nat.le_refl _) (.cells #[.int .i64 x.kind, .string x.name, .string x.field, .string x.sign, .slice x.va x.vals.length x.vc, .slice x.wa x.whs.length x.wc, .int .i64 x.within, .int .i64 x.number, .slice x.aa na x.ac] 30))
  generalize ndB x = R at *
  obtain ⟨kind, name, field, sign, va, vc, vals, wa, wc, whs, within, number, aa, ac⟩ := x
  simp only at *
  subst hk
  go_enter Tryz.func44, Tryz.ntmps44
  go_wp2_with fail
  go_ret
  exact ⟨ret_strX HR.out.symm, HB.out⟩

set_option maxHeartbeats 16000000 in
set_option maxRecDepth 100000 in
theorem wr2_any (x : Nd) (na : Nat) (w : World) (hok : x.ok) (hV : RAt w x.va 3 Vl.cells x.vals) (hW : RAt w x.wa 5 Wh.cells x.whs) (hn : TxN x na) (hk : x.kind = 2) (htab : P10x w) :
    Calls Tryz.prog 44 #[.agg #[.int .i64 x.kind, .string x.name, .string x.field, .string x.sign, .slice x.va x.vals.length x.vc, .slice x.wa x.whs.length x.wc, .int .i64 x.within, .int .i64 x.number, .slice x.aa na x.ac]] w (TxtO w (ndB x)) := by
  have HR := Lib.hid (show ndB x = ⟨#[110, 111, 110, 101]⟩ from by unfold ndB; rw [hk]; rfl)
  have HB := Lib.hid ((Below.refl w.heap.size w).alloc (Nat.le_refl _) (.cells #[.int .i64 x.kind, .string x.name, .string x.field, .string x.sign, .slice x.va x.vals.length x.vc, .slice x.wa x.whs.length x.wc, .int .i64 x.within, .int .i64 x.number, .slice x.aa na x.ac] 30))
  generalize ndB x = R at *
  obtain ⟨kind, name, field, sign, va, vc, vals, wa, wc, whs, within, number, aa, ac⟩ := x
  simp only at *
  subst hk
  go_enter Tryz.func44, Tryz.ntmps44
  go_wp2_with fail
  go_ret
  exact ⟨ret_strX HR.out.symm, HB.out⟩

set_option maxHeartbeats 16000000 in
set_option maxRecDepth 100000 in
theorem wr6_any (x : Nd) (na : Nat) (w : World) (hok : x.ok) (hV : RAt w x.va 3 Vl.cells x.vals) (hW : RAt w x.wa 5 Wh.cells x.whs) (hn : TxN x na) (hk : x.kind = 6) (htab : P10x w) :
    Calls Tryz.prog 44 #[.agg #[.int .i64 x.kind, .string x.name, .string x.field, .string x.sign, .slice x.va x.vals.length x.vc, .slice x.wa x.whs.length x.wc, .int .i64 x.within, .int .i64 x.number, .slice x.aa na x.ac]] w (TxtO w (ndB x)) := by
  have HR := Lib.hid (show ndB x = ⟨#[104, 97, 115, 32]⟩ ++ x.name from by unfold ndB; rw [hk]; rfl)
  have HB := Lib.hid ((Below.refl w.heap.size w).alloc (Nat.le_refl _) (.cells #[.int .i64 x.kind, .string x.name, .string x.field, .string x.sign, .slice x.va x.vals.length x.vc, .slice x.wa x.whs.length x.wc, .int .i64 x.within, .int .i64 x.number, .slice x.aa na x.ac] 30))
  generalize ndB x = R at *
  have hnm : x.name.size ≤ 1000 := hok.2.1
  have hz1 : ¬ (9223372036854775807 < 4 + x.name.size) := by omega
  obtain ⟨kind, name, field, sign, va, vc, vals, wa, wc, whs, within, number, aa, ac⟩ := x
  simp only at *
  subst hk
  go_enter Tryz.func44, Tryz.ntmps44
  go_wp2_with fail
  go_ret
  exact ⟨ret_strX HR.out.symm, HB.out⟩

set_option maxHeartbeats 16000000 in
set_option maxRecDepth 100000 in
theorem wr7_any (x : Nd) (na : Nat) (w : World) (hok : x.ok) (hV : RAt w x.va 3 Vl.cells x.vals) (hW : RAt w x.wa 5 Wh.cells x.whs) (hn : TxN x na) (hk : x.kind = 7) (htab : P10x w) :
    Calls Tryz.prog 44 #[.agg #[.int .i64 x.kind, .string x.name, .string x.field, .string x.sign, .slice x.va x.vals.length x.vc, .slice x.wa x.whs.length x.wc, .int .i64 x.within, .int .i64 x.number, .slice x.aa na x.ac]] w (TxtO w (ndB x)) := by
  have HR := Lib.hid (show ndB x = x.name ++ ⟨#[32]⟩ ++ x.sign ++ ⟨#[32]⟩ ++ vtB (x.vals.getD 0 default) from by unfold ndB; rw [hk]; rfl)
  have hl : 0 < x.vals.length := hn.v1 (by omega)
  obtain ⟨p, off, hva, hp, d0, d1, d2⟩ := hV.at3v hl
  have hv0 : x.vals.getD 0 default = x.vals[0] := by rw [List.getD_eq_getElem?_getD, List.getElem?_eq_getElem hl]; rfl
  have hvo := hok.2.2.2.2.2.2.2.2.1 _ (List.getElem_mem hl)
  have hvs := vtB_size hvo
  have hvt : x.vals[0].text.size ≤ 1000 := Nat.le_trans hvo.2.1 (by decide)
  have hyr := vl_right (hn.vr _ (List.getElem_mem hl))
  have CV0 := Lib.hid (fun w h => valueTextP_any x.vals[0] w hvo h)
  rw [hv0] at HR
  have hnm : x.name.size ≤ 1000 := hok.2.1
  have hsg : x.sign.size ≤ 1000 := hok.2.2.2.1
  generalize vtB x.vals[0] = vt at *
  generalize x.vals[0] = y at *
  obtain ⟨yk, yt, yn⟩ := y
  simp only [Nat.zero_mul, Nat.add_zero] at d0 d1 d2 CV0 hvs hvt
  generalize ndB x = R at *
  clear hok hW hn hv0 hvo hyr
  obtain ⟨kind, name, field, sign, va, vc, vals, wa, wc, whs, within, number, aa, ac⟩ := x
  simp only at *
  subst hk
  subst hva
  have HV : Hid (VA w p off yk yt yn) := Lib.hid ⟨hp, d0, d1, d2⟩
  clear hV d0 d1 d2 hp
  obtain ⟨nv, hnv⟩ : ∃ z, vals.length = z := ⟨_, rfl⟩
  obtain ⟨nw, hnw⟩ : ∃ z, whs.length = z := ⟨_, rfl⟩
  rw [hnv] at hl
  have hl0 : decide (0 < nv) = true := decide_eq_true hl
  rw [hnv, hnw]
  clear hnv hnw
  have HB := Lib.hid ((Below.refl w.heap.size w).alloc (Nat.le_refl _) (.cells #[.int .i64 7, .string name, .string field, .string sign, .slice (some ⟨p, off, none⟩) nv vc, .slice wa nw wc, .int .i64 within, .int .i64 number, .slice aa na ac] 30))
  have HX := Lib.hid (XB.new w [.int .i64 7, .string name, .string field, .string sign, .slice (some ⟨p, off, none⟩) nv vc, .slice wa nw wc, .int .i64 within, .int .i64 number, .slice aa na ac] 30)
  have HP := Lib.hid (p10x_below htab HB.out)
  clear htab
  simp only [List.toArray] at HX
  go_enter Tryz.func44, Tryz.ntmps44
  go_upto_region 22 with (fail)
  generalize w.alloc (.cells #[.int .i64 7, .string name, .string field, .string sign, .slice (some ⟨p, off, none⟩) nv vc, .slice wa nw wc, .int .i64 within, .int .i64 number, .slice aa na ac] 30) = wb at *
  obtain ⟨q0, hq0⟩ : ∃ z, w.heap.size = z := ⟨_, rfl⟩
  rw [hq0] at HX ⊢
  have HQ0 := Lib.hid hq0
  clear hq0
  have HV := Lib.hid (HV.out.bl HB.out)
  have CV := Lib.hid (fun w' (h : Below wb.heap.size wb w') => CV0.out w' (p10x_below HP.out h))
  have K0 := Lib.hid (fun w' (hb : Below wb.heap.size wb w') => (show (w'.cell? ⟨q0, 1, none⟩ = some (.string name) ∧ w'.cell? ⟨q0, 3, none⟩ = some (.string sign) ∧ w'.cell? ⟨q0, 4, none⟩ = some (.slice (some ⟨p, off, none⟩) nv vc) ∧ w'.cell? ⟨p, off, none⟩ = some (.int .i64 yk) ∧ w'.cell? ⟨p, off + 1, none⟩ = some (.string yt) ∧ w'.cell? ⟨p, off + 2, none⟩ = some (.int .i64 yn)) ∧ Below wb.heap.size wb w' from ⟨⟨(HX.out.below hb).2 1 _ rfl, (HX.out.below hb).2 3 _ rfl, (HX.out.below hb).2 4 _ rfl, (HV.out.bl hb).c0, (HV.out.bl hb).c1, (HV.out.bl hb).c2⟩, hb⟩))
  clear HX HV CV0 HP
  have hz1 : ¬ (9223372036854775807 < name.size + 1) := by omega
  have hz2 : ¬ (9223372036854775807 < name.size + 1 + sign.size) := by omega
  have hz3 : ¬ (9223372036854775807 < name.size + 1 + sign.size + 1) := by omega
  have hz4 : ¬ (9223372036854775807 < name.size + 1 + sign.size + 1 + vt.size) := by omega
  go_region_held3 (fun w' => (w'.cell? ⟨q0, 1, none⟩ = some (.string name) ∧ w'.cell? ⟨q0, 3, none⟩ = some (.string sign) ∧ w'.cell? ⟨q0, 4, none⟩ = some (.slice (some ⟨p, off, none⟩) nv vc) ∧ w'.cell? ⟨p, off, none⟩ = some (.int .i64 yk) ∧ w'.cell? ⟨p, off + 1, none⟩ = some (.string yt) ∧ w'.cell? ⟨p, off + 2, none⟩ = some (.int .i64 yn)) ∧ Below wb.heap.size wb w')
    (first | assumption | (exact K0.out _ (Below.refl _ _).drew) | (refine K0.out _ (Below.trans (And.right (by assumption)) (hb.mono ?_)); exact (And.right (by assumption) : Below _ _ _).size))
    (first | (go_at_call 91; (with_reducible refine (CV.out _ (And.right (by assumption))).mono ?_); rintro e w' ⟨rfl, hb⟩))
  all_goals
    have hE : Below wb.heap.size wb _ := And.right (by assumption)
    have HE := Lib.hid (HB.out.trans (hE.mono HB.out.size))
    clear K0
    go_wp2_with fail
    go_ret
    exact ⟨ret_strX HR.out.symm, by have h := HE.out; rw [← HQ0.out] at *; exact h⟩

set_option maxHeartbeats 16000000 in
set_option maxRecDepth 100000 in
theorem wr9_any (x : Nd) (na : Nat) (w : World) (hok : x.ok) (hV : RAt w x.va 3 Vl.cells x.vals) (hW : RAt w x.wa 5 Wh.cells x.whs) (hn : TxN x na) (hk : x.kind = 9) (htab : P10x w) :
    Calls Tryz.prog 44 #[.agg #[.int .i64 x.kind, .string x.name, .string x.field, .string x.sign, .slice x.va x.vals.length x.vc, .slice x.wa x.whs.length x.wc, .int .i64 x.within, .int .i64 x.number, .slice x.aa na x.ac]] w (TxtO w (ndB x)) := by
  have HR := Lib.hid (show ndB x = x.name ++ ⟨#[32, 98, 101, 103, 105, 110, 115, 32]⟩ ++ vtB (x.vals.getD 0 default) from by unfold ndB; rw [hk]; rfl)
  have hl : 0 < x.vals.length := hn.v1 (by omega)
  obtain ⟨p, off, hva, hp, d0, d1, d2⟩ := hV.at3v hl
  have hv0 : x.vals.getD 0 default = x.vals[0] := by rw [List.getD_eq_getElem?_getD, List.getElem?_eq_getElem hl]; rfl
  have hvo := hok.2.2.2.2.2.2.2.2.1 _ (List.getElem_mem hl)
  have hvs := vtB_size hvo
  have hvt : x.vals[0].text.size ≤ 1000 := Nat.le_trans hvo.2.1 (by decide)
  have hyr := vl_right (hn.vr _ (List.getElem_mem hl))
  have CV0 := Lib.hid (fun w h => valueTextP_any x.vals[0] w hvo h)
  rw [hv0] at HR
  have hnm : x.name.size ≤ 1000 := hok.2.1
  have hsg : x.sign.size ≤ 1000 := hok.2.2.2.1
  generalize vtB x.vals[0] = vt at *
  generalize x.vals[0] = y at *
  obtain ⟨yk, yt, yn⟩ := y
  simp only [Nat.zero_mul, Nat.add_zero] at d0 d1 d2 CV0 hvs hvt
  generalize ndB x = R at *
  clear hok hW hn hv0 hvo hyr
  obtain ⟨kind, name, field, sign, va, vc, vals, wa, wc, whs, within, number, aa, ac⟩ := x
  simp only at *
  subst hk
  subst hva
  have HV : Hid (VA w p off yk yt yn) := Lib.hid ⟨hp, d0, d1, d2⟩
  clear hV d0 d1 d2 hp
  obtain ⟨nv, hnv⟩ : ∃ z, vals.length = z := ⟨_, rfl⟩
  obtain ⟨nw, hnw⟩ : ∃ z, whs.length = z := ⟨_, rfl⟩
  rw [hnv] at hl
  have hl0 : decide (0 < nv) = true := decide_eq_true hl
  rw [hnv, hnw]
  clear hnv hnw
  have HB := Lib.hid ((Below.refl w.heap.size w).alloc (Nat.le_refl _) (.cells #[.int .i64 9, .string name, .string field, .string sign, .slice (some ⟨p, off, none⟩) nv vc, .slice wa nw wc, .int .i64 within, .int .i64 number, .slice aa na ac] 30))
  have HX := Lib.hid (XB.new w [.int .i64 9, .string name, .string field, .string sign, .slice (some ⟨p, off, none⟩) nv vc, .slice wa nw wc, .int .i64 within, .int .i64 number, .slice aa na ac] 30)
  have HP := Lib.hid (p10x_below htab HB.out)
  clear htab
  simp only [List.toArray] at HX
  go_enter Tryz.func44, Tryz.ntmps44
  go_upto_region 24 with (fail)
  generalize w.alloc (.cells #[.int .i64 9, .string name, .string field, .string sign, .slice (some ⟨p, off, none⟩) nv vc, .slice wa nw wc, .int .i64 within, .int .i64 number, .slice aa na ac] 30) = wb at *
  obtain ⟨q0, hq0⟩ : ∃ z, w.heap.size = z := ⟨_, rfl⟩
  rw [hq0] at HX ⊢
  have HQ0 := Lib.hid hq0
  clear hq0
  have HV := Lib.hid (HV.out.bl HB.out)
  have CV := Lib.hid (fun w' (h : Below wb.heap.size wb w') => CV0.out w' (p10x_below HP.out h))
  have K0 := Lib.hid (fun w' (hb : Below wb.heap.size wb w') => (show (w'.cell? ⟨q0, 1, none⟩ = some (.string name) ∧ w'.cell? ⟨q0, 4, none⟩ = some (.slice (some ⟨p, off, none⟩) nv vc) ∧ w'.cell? ⟨p, off, none⟩ = some (.int .i64 yk) ∧ w'.cell? ⟨p, off + 1, none⟩ = some (.string yt) ∧ w'.cell? ⟨p, off + 2, none⟩ = some (.int .i64 yn)) ∧ Below wb.heap.size wb w' from ⟨⟨(HX.out.below hb).2 1 _ rfl, (HX.out.below hb).2 4 _ rfl, (HV.out.bl hb).c0, (HV.out.bl hb).c1, (HV.out.bl hb).c2⟩, hb⟩))
  clear HX HV CV0 HP
  have hz1 : ¬ (9223372036854775807 < name.size + 8) := by omega
  have hz2 : ¬ (9223372036854775807 < name.size + 8 + vt.size) := by omega
  go_region_held3 (fun w' => (w'.cell? ⟨q0, 1, none⟩ = some (.string name) ∧ w'.cell? ⟨q0, 4, none⟩ = some (.slice (some ⟨p, off, none⟩) nv vc) ∧ w'.cell? ⟨p, off, none⟩ = some (.int .i64 yk) ∧ w'.cell? ⟨p, off + 1, none⟩ = some (.string yt) ∧ w'.cell? ⟨p, off + 2, none⟩ = some (.int .i64 yn)) ∧ Below wb.heap.size wb w')
    (first | assumption | (exact K0.out _ (Below.refl _ _).drew) | (refine K0.out _ (Below.trans (And.right (by assumption)) (hb.mono ?_)); exact (And.right (by assumption) : Below _ _ _).size))
    (first | (go_at_call 91; (with_reducible refine (CV.out _ (And.right (by assumption))).mono ?_); rintro e w' ⟨rfl, hb⟩))
  all_goals
    have hE : Below wb.heap.size wb _ := And.right (by assumption)
    have HE := Lib.hid (HB.out.trans (hE.mono HB.out.size))
    clear K0
    go_wp2_with fail
    go_ret
    exact ⟨ret_strX HR.out.symm, by have h := HE.out; rw [← HQ0.out] at *; exact h⟩

set_option maxHeartbeats 16000000 in
set_option maxRecDepth 100000 in
theorem wr10_any (x : Nd) (na : Nat) (w : World) (hok : x.ok) (hV : RAt w x.va 3 Vl.cells x.vals) (hW : RAt w x.wa 5 Wh.cells x.whs) (hn : TxN x na) (hk : x.kind = 10) (htab : P10x w) :
    Calls Tryz.prog 44 #[.agg #[.int .i64 x.kind, .string x.name, .string x.field, .string x.sign, .slice x.va x.vals.length x.vc, .slice x.wa x.whs.length x.wc, .int .i64 x.within, .int .i64 x.number, .slice x.aa na x.ac]] w (TxtO w (ndB x)) := by
  have HR := Lib.hid (show ndB x = x.name ++ ⟨#[32, 99, 111, 110, 116, 97, 105, 110, 115, 32]⟩ ++ vtB (x.vals.getD 0 default) from by unfold ndB; rw [hk]; rfl)
  have hl : 0 < x.vals.length := hn.v1 (by omega)
  obtain ⟨p, off, hva, hp, d0, d1, d2⟩ := hV.at3v hl
  have hv0 : x.vals.getD 0 default = x.vals[0] := by rw [List.getD_eq_getElem?_getD, List.getElem?_eq_getElem hl]; rfl
  have hvo := hok.2.2.2.2.2.2.2.2.1 _ (List.getElem_mem hl)
  have hvs := vtB_size hvo
  have hvt : x.vals[0].text.size ≤ 1000 := Nat.le_trans hvo.2.1 (by decide)
  have hyr := vl_right (hn.vr _ (List.getElem_mem hl))
  have CV0 := Lib.hid (fun w h => valueTextP_any x.vals[0] w hvo h)
  rw [hv0] at HR
  have hnm : x.name.size ≤ 1000 := hok.2.1
  have hsg : x.sign.size ≤ 1000 := hok.2.2.2.1
  generalize vtB x.vals[0] = vt at *
  generalize x.vals[0] = y at *
  obtain ⟨yk, yt, yn⟩ := y
  simp only [Nat.zero_mul, Nat.add_zero] at d0 d1 d2 CV0 hvs hvt
  generalize ndB x = R at *
  clear hok hW hn hv0 hvo hyr
  obtain ⟨kind, name, field, sign, va, vc, vals, wa, wc, whs, within, number, aa, ac⟩ := x
  simp only at *
  subst hk
  subst hva
  have HV : Hid (VA w p off yk yt yn) := Lib.hid ⟨hp, d0, d1, d2⟩
  clear hV d0 d1 d2 hp
  obtain ⟨nv, hnv⟩ : ∃ z, vals.length = z := ⟨_, rfl⟩
  obtain ⟨nw, hnw⟩ : ∃ z, whs.length = z := ⟨_, rfl⟩
  rw [hnv] at hl
  have hl0 : decide (0 < nv) = true := decide_eq_true hl
  rw [hnv, hnw]
  clear hnv hnw
  have HB := Lib.hid ((Below.refl w.heap.size w).alloc (Nat.le_refl _) (.cells #[.int .i64 10, .string name, .string field, .string sign, .slice (some ⟨p, off, none⟩) nv vc, .slice wa nw wc, .int .i64 within, .int .i64 number, .slice aa na ac] 30))
  have HX := Lib.hid (XB.new w [.int .i64 10, .string name, .string field, .string sign, .slice (some ⟨p, off, none⟩) nv vc, .slice wa nw wc, .int .i64 within, .int .i64 number, .slice aa na ac] 30)
  have HP := Lib.hid (p10x_below htab HB.out)
  clear htab
  simp only [List.toArray] at HX
  go_enter Tryz.func44, Tryz.ntmps44
  go_upto_region 26 with (fail)
  generalize w.alloc (.cells #[.int .i64 10, .string name, .string field, .string sign, .slice (some ⟨p, off, none⟩) nv vc, .slice wa nw wc, .int .i64 within, .int .i64 number, .slice aa na ac] 30) = wb at *
  obtain ⟨q0, hq0⟩ : ∃ z, w.heap.size = z := ⟨_, rfl⟩
  rw [hq0] at HX ⊢
  have HQ0 := Lib.hid hq0
  clear hq0
  have HV := Lib.hid (HV.out.bl HB.out)
  have CV := Lib.hid (fun w' (h : Below wb.heap.size wb w') => CV0.out w' (p10x_below HP.out h))
  have K0 := Lib.hid (fun w' (hb : Below wb.heap.size wb w') => (show (w'.cell? ⟨q0, 1, none⟩ = some (.string name) ∧ w'.cell? ⟨q0, 4, none⟩ = some (.slice (some ⟨p, off, none⟩) nv vc) ∧ w'.cell? ⟨p, off, none⟩ = some (.int .i64 yk) ∧ w'.cell? ⟨p, off + 1, none⟩ = some (.string yt) ∧ w'.cell? ⟨p, off + 2, none⟩ = some (.int .i64 yn)) ∧ Below wb.heap.size wb w' from ⟨⟨(HX.out.below hb).2 1 _ rfl, (HX.out.below hb).2 4 _ rfl, (HV.out.bl hb).c0, (HV.out.bl hb).c1, (HV.out.bl hb).c2⟩, hb⟩))
  clear HX HV CV0 HP
  have hz1 : ¬ (9223372036854775807 < name.size + 10) := by omega
  have hz2 : ¬ (9223372036854775807 < name.size + 10 + vt.size) := by omega
  go_region_held3 (fun w' => (w'.cell? ⟨q0, 1, none⟩ = some (.string name) ∧ w'.cell? ⟨q0, 4, none⟩ = some (.slice (some ⟨p, off, none⟩) nv vc) ∧ w'.cell? ⟨p, off, none⟩ = some (.int .i64 yk) ∧ w'.cell? ⟨p, off + 1, none⟩ = some (.string yt) ∧ w'.cell? ⟨p, off + 2, none⟩ = some (.int .i64 yn)) ∧ Below wb.heap.size wb w')
    (first | assumption | (exact K0.out _ (Below.refl _ _).drew) | (refine K0.out _ (Below.trans (And.right (by assumption)) (hb.mono ?_)); exact (And.right (by assumption) : Below _ _ _).size))
    (first | (go_at_call 91; (with_reducible refine (CV.out _ (And.right (by assumption))).mono ?_); rintro e w' ⟨rfl, hb⟩))
  all_goals
    have hE : Below wb.heap.size wb _ := And.right (by assumption)
    have HE := Lib.hid (HB.out.trans (hE.mono HB.out.size))
    clear K0
    go_wp2_with fail
    go_ret
    exact ⟨ret_strX HR.out.symm, by have h := HE.out; rw [← HQ0.out] at *; exact h⟩

set_option maxHeartbeats 16000000 in
set_option maxRecDepth 100000 in
theorem wr8_any (x : Nd) (na : Nat) (w : World) (hok : x.ok) (hV : RAt w x.va 3 Vl.cells x.vals) (hW : RAt w x.wa 5 Wh.cells x.whs) (hn : TxN x na) (hk : x.kind = 8) (htab : P10x w) :
    Calls Tryz.prog 44 #[.agg #[.int .i64 x.kind, .string x.name, .string x.field, .string x.sign, .slice x.va x.vals.length x.vc, .slice x.wa x.whs.length x.wc, .int .i64 x.within, .int .i64 x.number, .slice x.aa na x.ac]] w (TxtO w (ndB x)) := by
  obtain ⟨i0, hi, hz0, hz1, hz2⟩ := info_parts infoStrX
  have HR := Lib.hid (show ndB x = x.name ++ ⟨#[32, 105, 110, 32, 40]⟩ ++ jn ⟨#[44, 32]⟩ (x.vals.map vtB) ++ ⟨#[41]⟩ from by unfold ndB; rw [hk]; rfl)
  have HVO := Lib.hid hok.2.2.2.2.2.2.2.2.1
  have HVR := Lib.hid hn.vr
  have hnm : x.name.size ≤ 1000 := hok.2.1
  have hvl : x.vals.length ≤ 1000 := Nat.le_trans hok.2.2.2.2.1.2.2 (by decide)
  have HV := Lib.hid hV
  generalize ndB x = R at *
  clear hok hW hn hV
  obtain ⟨kind, name, field, sign, va, vc, vals, wa, wc, whs, within, number, aa, ac⟩ := x
  simp only at *
  subst hk
  obtain ⟨nv, hnv⟩ : ∃ z, vals.length = z := ⟨_, rfl⟩
  obtain ⟨nw, hnw⟩ : ∃ z, whs.length = z := ⟨_, rfl⟩
  have HNV := Lib.hid hnv
  rw [hnv] at hvl
  rw [hnv, hnw]
  clear hnv hnw
  have HB := Lib.hid ((Below.refl w.heap.size w).alloc (Nat.le_refl _) (.cells #[.int .i64 8, .string name, .string field, .string sign, .slice va nv vc, .slice wa nw wc, .int .i64 within, .int .i64 number, .slice aa na ac] 30))
  have HX := Lib.hid (XB.new w [.int .i64 8, .string name, .string field, .string sign, .slice va nv vc, .slice wa nw wc, .int .i64 within, .int .i64 number, .slice aa na ac] 30)
  have HP := Lib.hid (p10x_below htab HB.out)
  clear htab
  simp only [List.toArray] at HX
  go_enter Tryz.func44, Tryz.ntmps44
  go_upto_region 1 with (fail)
  generalize w.alloc (.cells #[.int .i64 8, .string name, .string field, .string sign, .slice va nv vc, .slice wa nw wc, .int .i64 within, .int .i64 number, .slice aa na ac] 30) = wb at *
  obtain ⟨q0, hq0⟩ : ∃ z, w.heap.size = z := ⟨_, rfl⟩
  rw [hq0] at HX ⊢
  have HQ0 := Lib.hid hq0
  clear hq0
  have HV := Lib.hid (HV.out.below HB.out)
  have T0 := Lib.hid (TxR.nil wb)
  have x0 := HX.out.2 0 _ rfl
  have x4 := HX.out.2 4 _ rfl
  have xl := HX.out.1
  go_wp2_with fail
  clear x0 x4 xl
  go_loopw [6, 97] (fun v i wr => ∃ k : Nat, k ≤ nv ∧ i = .int .i64 k ∧ TxR wb wb.heap.size v ((vals.take k).map vtB) wr) (fun _ i _ => nv - (intOf i).toNat)
  case atStart => exact ⟨0, Nat.zero_le _, rfl, T0.out⟩
  case round =>
    obtain ⟨k, hk, rfl, hT⟩ := hrel
    have HT := Lib.hid hT
    clear hT T0
    by_cases hlt : k < nv
    · --@wr8a
      have hkl : k < vals.length := by have := HNV.out; omega
      obtain ⟨pw, offw, rfl, hpw, d0, d1, d2⟩ := (HV.out.below HT.out.bl).at3v hkl
      have hyo := HVO.out vals[k] (List.getElem_mem hkl)
      have hyr := vl_right (HVR.out vals[k] (List.getElem_mem hkl))
      have HTK := Lib.hid (show (vals.take (k + 1)).map vtB = (vals.take k).map vtB ++ [vtB vals[k]] by rw [List.take_succ_eq_append_getElem hkl, List.map_append]; rfl)
      have hlen : ((vals.take k).map vtB).length = k := by rw [List.length_map, List.length_take]; omega
      have CV0 := Lib.hid (fun w h => valueTextP_any vals[k] w hyo h)
      generalize vtB vals[k] = vt at *
      generalize vals[k] = y at *
      obtain ⟨yk, yt, yn⟩ := y
      simp only at d0 d1 d2 CV0 HTK
      obtain ⟨l, hl⟩ : ∃ z, (vals.take k).map vtB = z := ⟨_, rfl⟩
      rw [hl] at HT HTK hlen
      clear hyo hyr hl
      have HTa := Lib.hid (HT.out.alloc (.cells #[.int .i64 yk, .string yt, .int .i64 yn] 72))
      have HXw := Lib.hid (XB.new wr [.int .i64 yk, .string yt, .int .i64 yn] 72)
      simp only [List.toArray] at HXw
      have CV := Lib.hid (CV0.out _ (p10x_below HP.out HTa.out.bl))
      have y0 := HXw.out.2 0 _ rfl
      have y1 := HXw.out.2 1 _ rfl
      have y2 := HXw.out.2 2 _ rfl
      have yl := HXw.out.1
      clear HT CV0 HXw
      go_wp2_with fail
      ((with_reducible refine CV.out.mono ?_); rintro e w3 ⟨rfl, hb⟩)
      have HT3 := Lib.hid (HTa.out.below hb)
      have own5 := HT3.out.own
      have hsz := HT3.out.hs
      clear CV HTa hb d0 d1 d2 y0 y1 y2 yl hpw
      go_wp2_with (at_builtin; refine wpList_append_own _ rfl _ _ 44 rfl wb.heap.size 9 i0 _ 1 16 Tryz.underlying44 hi hz0 hz1 hz2 rfl (by decide) _ _ _ rfl (own5.alloc _) ⟨w3.heap.size, 0, none⟩ 1 1 [.string vt] rfl rfl ?c1 ?c2 ?c3 ?c4 ?c5 ?_)
      case c1 => exact cells_new w3 #[.string vt] 9
      case c2 => simp [Value.oneCell']
      case c3 => unfold maxLen; omega
      case c4 => omega
      case c5 => simp; omega
      intro v2 w6 own6 hgrow6 hne6
      have HT6 := Lib.hid ((HT3.out.alloc (.cells #[.string vt] 9)).app (by rw [hlen]; exact own6) hgrow6)
      rw [← HTK.out] at HT6
      clear own6 hgrow6 hne6 own5 HT3
      go_wp2_with fail
      go_roundw
      case rel => exact ⟨k + 1, by omega, by go_num, HT6.out⟩
      case measure => simp [intOf]; omega
      --@end
    · --@wr8b
      obtain rfl : k = nv := by omega
      rw [List.take_of_length_le (by have := HNV.out; omega)] at HT
      have hll : (vals.map vtB).length = k := by rw [List.length_map]; exact HNV.out
      have hjs : (jn ⟨#[44, 32]⟩ (vals.map vtB)).size ≤ 8000000 := by
        have h := jn_le ⟨#[44, 32]⟩ (vals.map vtB) 5000 (fun s hs => by
          obtain ⟨y, hy, rfl⟩ := List.mem_map.1 hs
          have h1 := vtB_size (HVO.out y hy)
          have h2 : y.text.size ≤ 1000 := Nat.le_trans (HVO.out y hy).2.1 (by decide)
          omega)
        rw [hll] at h
        have e : (⟨#[44, 32]⟩ : ByteArray).size = 2 := rfl
        rw [e] at h
        have : (2 + 5000) * k ≤ 5002 * 1000 := Nat.mul_le_mul_left _ hvl
        omega
      have CJ := Lib.hid (fun w' (h : TxR wb wb.heap.size u6 (vals.map vtB) w') => join_own _ u6 (vals.map vtB) ⟨#[44, 32]⟩ w' h.own (by omega) (by omega))
      generalize jn ⟨#[44, 32]⟩ (vals.map vtB) = J at *
      have hshape : ∃ a c, u6 = .slice a k c := by
        obtain ⟨-, ⟨e, h0⟩ | ⟨g, cap, cur, e, -⟩⟩ := HT.out.own
        · exact ⟨none, 0, by rw [e]; congr 1; omega⟩
        · exact ⟨_, _, by rw [e, hll]⟩
      obtain ⟨a4, c4, hu4⟩ := hshape
      subst hu4
      have HBr := Lib.hid (HB.out.trans (HT.out.bl.mono HB.out.size))
      have CV := Lib.hid (fun w' (hb : Below wr.heap.size wr w') => CJ.out w' (HT.out.below hb))
      have K0 := Lib.hid (fun w' (hb : Below wr.heap.size wr w') => (show (w'.cell? ⟨q0, 1, none⟩ = some (.string name)) ∧ Below wr.heap.size wr w' from ⟨((HX.out.below HT.out.bl).below hb).2 1 _ rfl, hb⟩))
      have xl := (HX.out.below HT.out.bl).1
      clear HX HV HP CJ HT HB HVO HVR HNV hll
      have hz3 : ¬ (9223372036854775807 < name.size + 5) := by omega
      have hz4 : ¬ (9223372036854775807 < name.size + 5 + J.size) := by omega
      have hz5 : ¬ (9223372036854775807 < name.size + 5 + J.size + 1) := by omega
      generalize wr = wb2 at *
      go_upto_region 34 with (fail)
      go_region_held3 (fun w' => (w'.cell? ⟨q0, 1, none⟩ = some (.string name)) ∧ Below wb2.heap.size wb2 w')
        (first | assumption | (exact K0.out _ (Below.refl _ _).drew) | (refine K0.out _ (Below.trans (And.right (by assumption)) (hb.mono ?_)); exact (And.right (by assumption) : Below _ _ _).size))
        (first | (go_at_call 47; (with_reducible refine (CV.out _ (And.right (by assumption))).mono ?_); rintro e w' ⟨rfl, hb⟩))
      all_goals
        have hE : Below wb2.heap.size wb2 _ := And.right (by assumption)
        have HE := Lib.hid (HBr.out.trans (hE.mono HBr.out.size))
        clear K0
        go_wp2_with fail
        go_ret
        exact ⟨ret_strX HR.out.symm, by have h := HE.out; rw [← HQ0.out] at *; exact h⟩
      --@end

set_option maxHeartbeats 16000000 in
set_option maxRecDepth 100000 in
theorem wr11_any (x : Nd) (na : Nat) (w : World) (hok : x.ok) (hV : RAt w x.va 3 Vl.cells x.vals) (hW : RAt w x.wa 5 Wh.cells x.whs) (hn : TxN x na) (hk1 : 11 ≤ x.kind) (hk2 : x.kind ≤ 14) (htab : P10x w) :
    Calls Tryz.prog 44 #[.agg #[.int .i64 x.kind, .string x.name, .string x.field, .string x.sign, .slice x.va x.vals.length x.vc, .slice x.wa x.whs.length x.wc, .int .i64 x.within, .int .i64 x.number, .slice x.aa na x.ac]] w (TxtO w (ndB x)) := by
  have HR := Lib.hid (show ndB x = evB x from by
    unfold ndB
    rw [if_neg (by omega), if_neg (by omega), if_neg (by omega), if_neg (by omega), if_neg (by omega), if_neg (by omega), if_neg (by omega)])
  have CE := Lib.hid (fun w hW h => eventsText_any x na w hok hW hk1 hk2 hn.wi.1 hn.wi.2 hn.nu h)
  have HB := Lib.hid ((Below.refl w.heap.size w).alloc (Nat.le_refl _) (.cells #[.int .i64 x.kind, .string x.name, .string x.field, .string x.sign, .slice x.va x.vals.length x.vc, .slice x.wa x.whs.length x.wc, .int .i64 x.within, .int .i64 x.number, .slice x.aa na x.ac] 30))
  have HX := Lib.hid (XB.new w [.int .i64 x.kind, .string x.name, .string x.field, .string x.sign, .slice x.va x.vals.length x.vc, .slice x.wa x.whs.length x.wc, .int .i64 x.within, .int .i64 x.number, .slice x.aa na x.ac] 30)
  have HC := Lib.hid (CE.out _ (hW.below HB.out) (p10x_below htab HB.out))
  clear CE hok hn hV hW htab
  rw [← HR.out] at HC
  generalize ndB x = R at *
  obtain ⟨kind, name, field, sign, va, vc, vals, wa, wc, whs, within, number, aa, ac⟩ := x
  simp only at *
  have f1 : (kind == 1) = false := by simp; omega
  have f2 : (kind == 2) = false := by simp; omega
  have f3 : (kind == 3) = false := by simp; omega
  have f4 : (kind == 4) = false := by simp; omega
  have f5 : (kind == 5) = false := by simp; omega
  have f6 : (kind == 6) = false := by simp; omega
  have f7 : (kind == 7) = false := by simp; omega
  have f8 : (kind == 8) = false := by simp; omega
  have f9 : (kind == 9) = false := by simp; omega
  have f10 : (kind == 10) = false := by simp; omega
  clear HR
  go_enter Tryz.func44, Tryz.ntmps44
  go_wp2_with fail
  ((with_reducible refine HC.out.mono ?_); rintro e w1 ⟨rfl, hb⟩)
  have HB1 := Lib.hid (HB.out.trans (hb.mono HB.out.size))
  clear hb
  go_wp2_with fail
  go_ret
  exact ⟨rfl, HB1.out⟩
end Go.Proofs.YtfdpfkdfglombaaGreatDoor
