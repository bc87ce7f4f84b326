/- A test of events, as segment.eventsText writes it (printed by gen_txev.py). -/
import Derived.Test.YtfdpfkdfglombaaGreatDoorTxB
import Derived.Test.YtfdpfkdfglombaaGreatDoorMask
import Derived.Deep.RegionWith
import Derived.Deep.RegionHeld3
import Derived.Deep.AppendLies
import Derived.Deep.Cut
import Derived.Deep.CutBlock
import Derived.Deep.DeepCutAuto
set_option linter.unusedVariables false
namespace Go.Proofs.YtfdpfkdfglombaaGreatDoor
open Go.RowKit

theorem infoStrX : (Tryz.prog.info? 9).map (fun i => (i.zero, i.size, i.bytes)) = some (some (.string ⟨#[]⟩), 1, 16) := by kernel_rfl
/-- texts in a row of one's own, made since world w -/
structure TxR (w : World) (b0 : Nat) (v : Value) (l : List ByteArray) (wr : World) : Prop where
  own : wr.ownsRow b0 9 1 v l.length (l.map Value.string)
  bl : Below w.heap.size w wr
  hb : w.heap.size ≤ b0
  hs : b0 ≤ wr.heap.size
theorem TxR.below {w wr w' : World} {b0 : Nat} {v : Value} {l : List ByteArray} (h : TxR w b0 v l wr) (k : Below wr.heap.size wr w') : TxR w b0 v l w' :=
  ⟨by
    refine h.own.kept (grown_of_below k none) ?_
    cases v.ownBlock with
    | none => exact .inl rfl
    | some q => exact .inr (by simp), h.bl.trans (k.mono h.bl.size), h.hb, Nat.le_trans h.hs k.size⟩
theorem TxR.alloc {w wr : World} {b0 : Nat} {v : Value} {l : List ByteArray} (h : TxR w b0 v l wr) (o : Obj) : TxR w b0 v l (wr.alloc o) := h.below ((Below.refl _ _).alloc (Nat.le_refl _) o)
theorem TxR.app {w wr w' : World} {b0 : Nat} {v v' : Value} {l : List ByteArray} {s : ByteArray} (h : TxR w b0 v l wr) (own' : w'.ownsRow b0 9 1 v' (l.length + 1) (l.map Value.string ++ [.string s])) (k : wr.grownBy w' v.ownBlock) : TxR w b0 v' (l ++ [s]) w' :=
  ⟨by rw [List.length_append, List.map_append]; exact own', h.bl.grown k h.bl.size (fun q hq => Nat.le_trans h.hb (h.own.lt q hq).1), h.hb, Nat.le_trans h.hs k.size⟩
theorem TxR.nil (w : World) : TxR w w.heap.size (.slice none 0 0) [] w := ⟨World.ownsRow_nil _ _ _ _, Below.refl _ _, Nat.le_refl _, Nat.le_refl _⟩
/-- what the region that appends a comparison keeps -/
structure JEv (wd : World) (yf ys vt : ByteArray) (yv : Value) (b : Msk) (u : Nat → Value) (wx : World) : Prop where
  bl : Below wd.heap.size wd wx
  p2 : b 2 = true → u 40 = .string yf
  p3 : b 3 = true → u 41 = .string (yf ++ ⟨#[32]⟩)
  p5 : b 5 = true → u 43 = .string ys
  p6 : b 6 = true → u 44 = .string (yf ++ ⟨#[32]⟩ ++ ys)
  p7 : b 7 = true → u 45 = .string (yf ++ ⟨#[32]⟩ ++ ys ++ ⟨#[32]⟩)
  p9 : b 9 = true → u 47 = yv
  p10 : b 10 = true → u 48 = .string vt
  p11 : b 11 = true → u 49 = .string (yf ++ ⟨#[32]⟩ ++ ys ++ ⟨#[32]⟩ ++ vt)
theorem wh_take (l : List Wh) (k : Nat) (h : k < l.length) : (l.take (k + 1)).map whX = (l.take k).map whX ++ [whX l[k]] := by
  rw [List.take_succ_eq_append_getElem h, List.map_append]; rfl

set_option maxHeartbeats 32000000 in
set_option maxRecDepth 100000 in
theorem eventsText_any (x : Nd) (na : Nat) (w : World) (hok : x.ok) (hW : RAt w x.wa 5 Wh.cells x.whs) (hk1 : 11 ≤ x.kind) (hk2 : x.kind ≤ 14) (h0 : 0 ≤ x.within) (h1 : x.within ≤ 4321440) (hn : x.kind = 13 → 0 ≤ x.number ∧ x.number ≤ 4321440) (htab : P10x w) :
    Calls Tryz.prog 92 #[.agg #[.int .i64 x.kind, .string x.name, .string x.field, .string x.sign, .slice x.va x.vals.length x.vc, .slice x.wa x.whs.length x.wc, .int .i64 x.within, .int .i64 x.number, .slice x.aa na x.ac]] w (TxtO w (evB x)) := by
  obtain ⟨i0, hi, hz0, hz1, hz2⟩ := info_parts infoStrX
  have hmm := @run_makeMap Tryz.prog
  obtain ⟨o1, o2, o3, o4, ⟨o5, o6, o7⟩, ⟨o8, o9, o10⟩, o11, o12, o13, o14⟩ := hok
  have HR := Lib.hid (show evB x = if x.kind = 13 then ev3 x ++ (⟨#[32]⟩ ++ x.sign ++ ⟨#[32]⟩ ++ spB x.number) else if x.kind = 11 ∨ x.kind = 12 then ev3 x ++ (⟨#[32]⟩ ++ x.sign ++ ⟨#[32]⟩ ++ itB x.number) else ev3 x from rfl)
  have HR3 := Lib.hid (show ev3 x = if 0 < x.within then ev2 x ++ (⟨#[32, 119, 105, 116, 104, 105, 110, 32]⟩ ++ spB x.within) else ev2 x from rfl)
  have HR2 := Lib.hid (show ev2 x = if x.whs.length = 0 then ev1 x else ev1 x ++ (⟨#[32, 119, 104, 101, 114, 101, 32, 40]⟩ ++ whJ x.whs ++ ⟨#[41]⟩) from rfl)
  have HR1 := Lib.hid (show ev1 x = if x.kind = 12 then ev0 x ++ (⟨#[46]⟩ ++ x.field) else if x.kind = 14 then ev0 x ++ (⟨#[32]⟩ ++ x.field) else ev0 x from rfl)
  have HR0 := Lib.hid (show ev0 x = imS [(11, ⟨#[99, 111, 117, 110, 116, 32]⟩), (12, ⟨#[115, 117, 109, 32]⟩), (13, ⟨#[115, 105, 110, 99, 101, 32]⟩), (14, ⟨#[116, 104, 101, 110, 32]⟩)] x.kind ++ x.name from by
    unfold ev0 imS
    rcases (show x.kind = 11 ∨ x.kind = 12 ∨ x.kind = 13 ∨ x.kind = 14 by omega) with h | h | h | h <;> simp [h])
  have hc0 : (imS [(11, ⟨#[99, 111, 117, 110, 116, 32]⟩), (12, ⟨#[115, 117, 109, 32]⟩), (13, ⟨#[115, 105, 110, 99, 101, 32]⟩), (14, ⟨#[116, 104, 101, 110, 32]⟩)] x.kind).size ≤ 6 := by
    unfold imS
    rcases (show x.kind = 11 ∨ x.kind = 12 ∨ x.kind = 13 ∨ x.kind = 14 by omega) with h | h | h | h <;> simp [h] <;> decide
  have HJ := Lib.hid (show whJ x.whs = jn ⟨#[44, 32]⟩ (x.whs.map whX) from rfl)
  have HWO := Lib.hid o14
  have HW := Lib.hid hW
  have CS := Lib.hid (fun w h => spanP_any x.within h0 h1 w h)
  have CN := Lib.hid (fun (h : x.kind = 13) w ht => spanP_any x.number (hn h).1 (hn h).2 w ht)
  have CI := Lib.hid (fun w h => itX_any x.number o12 w h)
  have hsp := spB_size x.within h0 h1
  have hsn := fun h : x.kind = 13 => spB_size x.number (hn h).1 (hn h).2
  have hsi := itB_size o12
  have hnm : x.name.size ≤ 1000 := o2
  have hfl : x.field.size ≤ 1000 := o3
  have hsg : x.sign.size ≤ 1000 := o4
  clear o1 o2 o3 o4 o11 o12 o13 o14 hW hn
  generalize evB x = R at *
  generalize ev3 x = R3 at *
  generalize ev2 x = R2 at *
  generalize ev1 x = R1 at *
  generalize ev0 x = R0 at *
  obtain ⟨kind, name, field, sign, va, vc, vals, wa, wc, whs, within, number, aa, ac⟩ := x
  simp only at *
  generalize spB within = sp at *
  generalize spB number = sn at *
  generalize itB number = si at *
  obtain ⟨c0, hc0'⟩ : ∃ z, imS [(11, ⟨#[99, 111, 117, 110, 116, 32]⟩), (12, ⟨#[115, 117, 109, 32]⟩), (13, ⟨#[115, 105, 110, 99, 101, 32]⟩), (14, ⟨#[116, 104, 101, 110, 32]⟩)] kind = z := ⟨_, rfl⟩
  have HC0 := Lib.hid hc0'
  rw [hc0'] at HR0 hc0
  clear hc0'
  obtain ⟨nv, hnv⟩ : ∃ z, vals.length = z := ⟨_, rfl⟩
  obtain ⟨nw, hnw⟩ : ∃ z, whs.length = z := ⟨_, rfl⟩
  rw [hnv] at o5 o7
  rw [hnw] at o8 o10 HR2
  rw [hnv, hnw]
  have HNW := Lib.hid hnw
  clear hnv hnw
  have HXa := Lib.hid (XB.new w [.int .i64 kind, .string name, .string field, .string sign, .slice va nv vc, .slice wa nw wc, .int .i64 within, .int .i64 number, .slice aa na ac] 30)
  have HBa := Lib.hid ((Below.refl w.heap.size w).alloc (Nat.le_refl _) (.cells #[.int .i64 kind, .string name, .string field, .string sign, .slice va nv vc, .slice wa nw wc, .int .i64 within, .int .i64 number, .slice aa na ac] 30))
  obtain ⟨wa0, hwa0⟩ : ∃ z, w.alloc (.cells #[.int .i64 kind, .string name, .string field, .string sign, .slice va nv vc, .slice wa nw wc, .int .i64 within, .int .i64 number, .slice aa na ac] 30) = z := ⟨_, rfl⟩
  rw [show w.alloc (.cells (List.toArray [.int .i64 kind, .string name, .string field, .string sign, .slice va nv vc, .slice wa nw wc, .int .i64 within, .int .i64 number, .slice aa na ac]) 30) = wa0 from hwa0] at HXa
  rw [hwa0] at HBa
  have hza : wa0.heap.size = w.heap.size + 1 := by rw [← hwa0]; exact World.size_alloc _ _
  have HM0 : Hid (IMs (wa0.alloc (.map #[] 0)) wa0.heap.size 0 []) := Lib.hid (IMs.made wa0)
  have HB0 := Lib.hid (HBa.out.alloc HBa.out.size (.map #[] 0))
  have HX0 := Lib.hid (HXa.out.alloc (.map #[] 0))
  obtain ⟨q0, hq0⟩ : ∃ z, w.heap.size = z := ⟨_, rfl⟩
  have HSZ : Hid (w.heap.size = q0) := Lib.hid hq0
  rw [show wa0.heap.size = q0 + 1 by omega] at HM0
  rw [hq0] at HX0
  obtain ⟨y0, hy0⟩ : ∃ z, wa0.alloc (.map #[] 0) = z := ⟨_, rfl⟩
  rw [hy0] at HM0 HB0 HX0
  clear HXa HBa
  go_enter Tryz.func92, Tryz.ntmps92
  go_wp2_with (refine wpList_insert_ims _ rfl _ _ _ rfl (q0 + 1) 0 [] (by simp [Act.eval]) HM0.out (by unfold maxLen; omega) 11 ⟨#[99, 111, 117, 110, 116, 32]⟩ rfl rfl (by decide) (by decide) (by decide) ?_)
  intro y1 hM hg
  have HM1 := Lib.hid hM
  have HB1 := Lib.hid (HB0.out.grown hg HB0.out.size (fun z hz => by injection hz with hz; have := HSZ.out; omega))
  have HX1 := Lib.hid (HX0.out.grown hg (fun e => by have := Option.some.inj e; have := HSZ.out; omega))
  clear hM hg HM0 HB0 HX0
  go_wp2_with (refine wpList_insert_ims _ rfl _ _ _ rfl (q0 + 1) 1 [(11, ⟨#[99, 111, 117, 110, 116, 32]⟩)] (by simp [Act.eval]) HM1.out (by unfold maxLen; omega) 12 ⟨#[115, 117, 109, 32]⟩ rfl rfl (by decide) (by decide) (by decide) ?_)
  intro y2 hM hg
  have HM2 := Lib.hid hM
  have HB2 := Lib.hid (HB1.out.grown hg HB1.out.size (fun z hz => by injection hz with hz; have := HSZ.out; omega))
  have HX2 := Lib.hid (HX1.out.grown hg (fun e => by have := Option.some.inj e; have := HSZ.out; omega))
  clear hM hg HM1 HB1 HX1
  go_wp2_with (refine wpList_insert_ims _ rfl _ _ _ rfl (q0 + 1) 2 [(11, ⟨#[99, 111, 117, 110, 116, 32]⟩), (12, ⟨#[115, 117, 109, 32]⟩)] (by simp [Act.eval]) HM2.out (by unfold maxLen; omega) 13 ⟨#[115, 105, 110, 99, 101, 32]⟩ rfl rfl (by decide) (by decide) (by decide) ?_)
  intro y3 hM hg
  have HM3 := Lib.hid hM
  have HB3 := Lib.hid (HB2.out.grown hg HB2.out.size (fun z hz => by injection hz with hz; have := HSZ.out; omega))
  have HX3 := Lib.hid (HX2.out.grown hg (fun e => by have := Option.some.inj e; have := HSZ.out; omega))
  clear hM hg HM2 HB2 HX2
  go_wp2_with (refine wpList_insert_ims _ rfl _ _ _ rfl (q0 + 1) 3 [(11, ⟨#[99, 111, 117, 110, 116, 32]⟩), (12, ⟨#[115, 117, 109, 32]⟩), (13, ⟨#[115, 105, 110, 99, 101, 32]⟩)] (by simp [Act.eval]) HM3.out (by unfold maxLen; omega) 14 ⟨#[116, 104, 101, 110, 32]⟩ rfl rfl (by decide) (by decide) (by decide) ?_)
  intro y4 hM hg
  have HM4 := Lib.hid hM
  have HB4 := Lib.hid (HB3.out.grown hg HB3.out.size (fun z hz => by injection hz with hz; have := HSZ.out; omega))
  have HX4 := Lib.hid (HX3.out.grown hg (fun e => by have := Option.some.inj e; have := HSZ.out; omega))
  clear hM hg HM3 HB3 HX3
  clear hmm hwa0 hza hy0
  have x0 := HX4.out.2 0 _ rfl
  have x1 := HX4.out.2 1 _ rfl
  have xl := HX4.out.1
  go_upto_region 2 with (at_lookup; refine wpList_lookup_ims _ rfl _ _ rfl (q0 + 1) 4 [(11, ⟨#[99, 111, 117, 110, 116, 32]⟩), (12, ⟨#[115, 117, 109, 32]⟩), (13, ⟨#[115, 105, 110, 99, 101, 32]⟩), (14, ⟨#[116, 104, 101, 110, 32]⟩)] rfl HM4.out kind rfl (by omega) (by omega) c0 HC0.out ?_)
  clear HC0 HM4
  try rw [hq0]
  clear hq0
  have hr0 : R0.size ≤ 1006 := by rw [HR0.out, ap_size]; omega
  rw [← HR0.out]
  clear HR0 hc0 x0 x1
  have HP4 := Lib.hid (p10x_below htab HB4.out)
  have HW4 := Lib.hid (HW.out.below HB4.out)
  clear HW htab
  have x0 := HX4.out.2 0 _ rfl
  have x2 := HX4.out.2 2 _ rfl
  obtain ⟨A1, hA1⟩ : ∃ z, (if kind = 12 then R0 ++ (⟨#[46]⟩ ++ field) else R0) = z := ⟨_, rfl⟩
  have HA1 := Lib.hid hA1
  have HRA : Hid (R1 = if kind = 14 then A1 ++ (⟨#[32]⟩ ++ field) else A1) := Lib.hid (by
    rw [HR1.out, ← hA1]
    by_cases h12 : kind = 12
    · rw [if_pos h12, if_neg (by omega), if_pos h12]
    · rw [if_neg h12, if_neg h12])
  have ha1 : A1.size ≤ 2007 := by
    rw [← hA1]
    split
    · rw [ap_size, ap_size]; show _ + (1 + _) ≤ _; omega
    · omega
  clear HR1 hA1
  go_upto_if 17 with (fail)
  go_cut [3] (fun u wx => u = .string A1 ∧ y4 = wx)
  case first =>
    by_cases h12 : kind = 12
    · have hB : (kind == 12) = true := by simpa using h12
      have HA := Lib.hid (HA1.out.symm.trans (if_pos h12))
      have hz1 : ¬ (9223372036854775807 < 1 + field.size) := by omega
      have hz2 : ¬ (9223372036854775807 < R0.size + (1 + field.size)) := by omega
      clear HA1 HRA h12
      go_wp2_with fail
      go_meet
      exact ⟨by rw [HA.out], rfl⟩
    · have hB : (kind == 12) = false := by simpa using h12
      have HA := Lib.hid (HA1.out.symm.trans (if_neg h12))
      clear HA1 HRA h12
      go_wp2_with fail
      go_meet
      exact ⟨by rw [HA.out], rfl⟩
  case rest =>
  obtain ⟨rfl, rfl⟩ := hcut
  clear HA1
  have hr1 : R1.size ≤ 3008 := by
    rw [HRA.out]
    split
    · rw [ap_size, ap_size]; show _ + (1 + _) ≤ _; omega
    · omega
  go_upto_if 25 with (fail)
  go_cut [3] (fun u wx => u = .string R1 ∧ y4 = wx)
  case first =>
    by_cases h14 : kind = 14
    · have hB : (kind == 14) = true := by simpa using h14
      have HA := Lib.hid (HRA.out.trans (if_pos h14))
      have hz1 : ¬ (9223372036854775807 < 1 + field.size) := by omega
      have hz2 : ¬ (9223372036854775807 < A1.size + (1 + field.size)) := by omega
      clear HRA h14
      go_wp2_with fail
      go_meet
      exact ⟨by rw [HA.out], rfl⟩
    · have hB : (kind == 14) = false := by simpa using h14
      have HA := Lib.hid (HRA.out.trans (if_neg h14))
      clear HRA h14
      go_wp2_with fail
      go_meet
      exact ⟨by rw [HA.out], rfl⟩
  case rest =>
  obtain ⟨rfl, rfl⟩ := hcut
  clear HRA x0 x2
  have x5 := HX4.out.2 5 _ rfl
  have T0 := Lib.hid (TxR.nil y4)
  go_wp2_with fail
  clear x5
  go_loopw [4, 34] (fun v i wr => ∃ k : Nat, k ≤ nw ∧ i = .int .i64 k ∧ TxR y4 y4.heap.size v ((whs.take k).map whX) wr) (fun _ i _ => nw - (intOf i).toNat)
  case atStart => exact ⟨0, Nat.zero_le _, rfl, T0.out⟩
  case round =>
    obtain ⟨k, hk, rfl, hT⟩ := hrel
    have HT := Lib.hid hT
    clear hT T0
    by_cases hlt : k < nw
    · --@r1
      have hkl : k < whs.length := by have := HNW.out; omega
      obtain ⟨pw, offw, rfl, hpw, d0, d1, d2, d3, d4⟩ := (HW4.out.below HT.out.bl).at5w hkl
      have hyo := HWO.out whs[k] (List.getElem_mem hkl)
      have HTK := Lib.hid (wh_take whs k hkl)
      have hlen : ((whs.take k).map whX).length = k := by rw [List.length_map, List.length_take]; omega
      have hwx : whX whs[k] = whs[k].field ++ ⟨#[32]⟩ ++ whs[k].sign ++ ⟨#[32]⟩ ++ vtB whs[k].val := rfl
      have hvs := vtB_size hyo.2.2
      have CV0 := Lib.hid (fun w h => valueTextP_any whs[k].val w hyo.2.2 h)
      rw [hwx] at HTK
      generalize vtB whs[k].val = vt at *
      generalize whs[k] = y at *
      obtain ⟨yf, ys, yv⟩ := y
      obtain ⟨yk, yt, yn⟩ := yv
      simp only at d0 d1 d2 d3 d4 hyo CV0 HTK hvs
      have hyf : yf.size ≤ 1000 := hyo.1
      have hys : ys.size ≤ 1000 := hyo.2.1
      have hyt : yt.size ≤ 1000 := Nat.le_trans hyo.2.2.2.1 (by decide)
      have hg1 : ¬ (9223372036854775807 < yf.size + 1) := by omega
      have hg2 : ¬ (9223372036854775807 < yf.size + 1 + ys.size) := by omega
      have hg3 : ¬ (9223372036854775807 < yf.size + 1 + ys.size + 1) := by omega
      have hg4 : ¬ (9223372036854775807 < yf.size + 1 + ys.size + 1 + vt.size) := by omega
      obtain ⟨l, hl⟩ : ∃ z, (whs.take k).map whX = z := ⟨_, rfl⟩
      rw [hl] at HT HTK hlen
      clear hyo hwx hl
      have HTa := Lib.hid (HT.out.alloc (.cells #[.string yf, .string ys, .int .i64 yk, .string yt, .int .i64 yn] 98))
      have HXw := Lib.hid (XB.new wr [.string yf, .string ys, .int .i64 yk, .string yt, .int .i64 yn] 98)
      simp only [List.toArray] at HXw
      clear HT
      go_upto_region 10 with (fail)
      generalize wr.alloc (.cells #[.string yf, .string ys, .int .i64 yk, .string yt, .int .i64 yn] 98) = wb at *
      generalize wr.heap.size = qw at *
      refine wp_region_any (by kernel_rfl) ?_
      change wpAny _ _ _ _ _ _ _ (World.drew _)
      have HTd : Hid (TxR y4 y4.heap.size u4 l wb.drew) := Lib.hid (HTa.out.below (below_drewN (Below.refl _ _) 1))
      have HXd : Hid (XB wb.drew qw [.string yf, .string ys, .int .i64 yk, .string yt, .int .i64 yn]) := Lib.hid HXw.out
      clear HTa HXw d0 d1 d2 d3 d4
      generalize wb.drew = wd at *
      have HPd := Lib.hid (p10x_below HP4.out HTd.out.bl)
      refine wpAny_take (i := 0) (oi := ⟨some 38, _, _, _, _, _⟩) (v := u4) rfl (by kernel_rfl) (by kernel_rfl) (by kernel_rfl) (fun _ _ _ h => h) (Or.inl ⟨by rfl, fun w => by go_simp⟩) ?_
      refine wpAny_take (i := 1) (oi := ⟨some 39, _, _, _, _, _⟩) (v := .pointer (some ⟨qw, 0, none⟩)) rfl (by kernel_rfl) (by kernel_rfl) (by kernel_rfl) (fun _ _ _ h => h) (Or.inl ⟨by rfl, fun w => by go_simp⟩) ?_
      refine wpAny_take (i := 4) (oi := ⟨some 42, _, _, _, _, _⟩) (v := .pointer (some ⟨qw, 1, none⟩)) rfl (by kernel_rfl) (by kernel_rfl) (by kernel_rfl) (fun _ _ _ h => h) (Or.inl ⟨by rfl, fun w => by go_simp⟩) ?_
      refine wpAny_take (i := 8) (oi := ⟨some 46, _, _, _, _, _⟩) (v := .pointer (some ⟨qw, 2, none⟩)) rfl (by kernel_rfl) (by kernel_rfl) (by kernel_rfl) (fun _ _ _ h => h) (Or.inl ⟨by rfl, fun w => by go_simp⟩) ?_
      refine wpAny_mask (n := 3) (m := 11) #[true, true, false, false, true, false, false, false, true, false, false, false, false, false, false] [2, 3, 5, 6, 7, 9, 10, 11] (fun i => if i = 3 then [2] else if i = 6 then [3, 5] else if i = 7 then [6] else if i = 10 then [9] else if i = 11 then [7, 10] else []) [40, 41, 43, 44, 45, 47, 48, 49] (fun d => if d = 40 then u40 else if d = 41 then u41 else if d = 43 then u43 else if d = 44 then u44 else if d = 45 then u45 else if d = 47 then u47 else if d = 48 then u48 else u49) (JEv wd yf ys vt (.agg #[.int .i64 yk, .string yt, .int .i64 yn])) rfl (by decide) (by kernel_rfl) (by kernel_rfl) ?stp ?hsp ?hendp
      case stp => exact ⟨Below.refl _ _, fun e => (by cases e), fun e => (by cases e), fun e => (by cases e), fun e => (by cases e), fun e => (by cases e), fun e => (by cases e), fun e => (by cases e), fun e => (by cases e)⟩
      case hsp =>
        intro i hi b u wx hbi hD hJ
        simp only [List.mem_cons, List.mem_nil_iff, or_false] at hi
        have HJ := Lib.hid hJ
        have HXx := HXd.out.below hJ.bl
        rcases hi with rfl | rfl | rfl | rfl | rfl | rfl | rfl | rfl
        · refine wpOp_calm (o := ⟨some 40, ?c2a, ?c2b, ?c2c, ?c2d, ?c2e⟩) ?c2i ?c2g ?_
          case c2i => exact rfl
          case c2g => exact rfl
          intro K' Q' hK'
          have HK := Lib.hid hK'
          clear hK'
          have y1 := HXx.2 0 _ rfl
          have yl := HXx.1
          clear hJ
          simp only [setAll, List.foldl]
          go_simp
          exact HK.out _ _ ⟨upd u 40 (.string yf), by kernel_rfl, by
            exact ⟨HJ.out.bl, fun _ => rfl, fun e => HJ.out.p3 e, fun e => HJ.out.p5 e, fun e => HJ.out.p6 e, fun e => HJ.out.p7 e, fun e => HJ.out.p9 e, fun e => HJ.out.p10 e, fun e => HJ.out.p11 e⟩⟩
        · refine wpOp_calm (o := ⟨some 41, ?c3a, ?c3b, ?c3c, ?c3d, ?c3e⟩) ?c3i ?c3g ?_
          case c3i => exact rfl
          case c3g => exact rfl
          intro K' Q' hK'
          have HK := Lib.hid hK'
          clear hK'
          have e2 := HJ.out.p2 (hD 2 (by simp))
          clear hJ
          simp only [setAll, List.foldl, e2]
          go_simp
          exact HK.out _ _ ⟨upd (upd u 40 (.string yf)) 41 (.string (yf ++ ⟨#[32]⟩)), by kernel_rfl, by
            rw [upd_same e2]
            exact ⟨HJ.out.bl, fun e => HJ.out.p2 e, fun _ => rfl, fun e => HJ.out.p5 e, fun e => HJ.out.p6 e, fun e => HJ.out.p7 e, fun e => HJ.out.p9 e, fun e => HJ.out.p10 e, fun e => HJ.out.p11 e⟩⟩
        · refine wpOp_calm (o := ⟨some 43, ?c5a, ?c5b, ?c5c, ?c5d, ?c5e⟩) ?c5i ?c5g ?_
          case c5i => exact rfl
          case c5g => exact rfl
          intro K' Q' hK'
          have HK := Lib.hid hK'
          clear hK'
          have y1 := HXx.2 1 _ rfl
          have yl := HXx.1
          clear hJ
          simp only [setAll, List.foldl]
          go_simp
          exact HK.out _ _ ⟨upd u 43 (.string ys), by kernel_rfl, by
            exact ⟨HJ.out.bl, fun e => HJ.out.p2 e, fun e => HJ.out.p3 e, fun _ => rfl, fun e => HJ.out.p6 e, fun e => HJ.out.p7 e, fun e => HJ.out.p9 e, fun e => HJ.out.p10 e, fun e => HJ.out.p11 e⟩⟩
        · refine wpOp_calm (o := ⟨some 44, ?c6a, ?c6b, ?c6c, ?c6d, ?c6e⟩) ?c6i ?c6g ?_
          case c6i => exact rfl
          case c6g => exact rfl
          intro K' Q' hK'
          have HK := Lib.hid hK'
          clear hK'
          have e3 := HJ.out.p3 (hD 3 (by simp))
          have e5 := HJ.out.p5 (hD 5 (by simp))
          clear hJ
          simp only [setAll, List.foldl, e3, e5]
          go_simp
          exact HK.out _ _ ⟨upd (upd (upd u 41 (.string (yf ++ ⟨#[32]⟩))) 43 (.string ys)) 44 (.string (yf ++ ⟨#[32]⟩ ++ ys)), by kernel_rfl, by
            rw [upd_same e3, upd_same e5]
            exact ⟨HJ.out.bl, fun e => HJ.out.p2 e, fun e => HJ.out.p3 e, fun e => HJ.out.p5 e, fun _ => rfl, fun e => HJ.out.p7 e, fun e => HJ.out.p9 e, fun e => HJ.out.p10 e, fun e => HJ.out.p11 e⟩⟩
        · refine wpOp_calm (o := ⟨some 45, ?c7a, ?c7b, ?c7c, ?c7d, ?c7e⟩) ?c7i ?c7g ?_
          case c7i => exact rfl
          case c7g => exact rfl
          intro K' Q' hK'
          have HK := Lib.hid hK'
          clear hK'
          have e6 := HJ.out.p6 (hD 6 (by simp))
          clear hJ
          simp only [setAll, List.foldl, e6]
          go_simp
          exact HK.out _ _ ⟨upd (upd u 44 (.string (yf ++ ⟨#[32]⟩ ++ ys))) 45 (.string (yf ++ ⟨#[32]⟩ ++ ys ++ ⟨#[32]⟩)), by kernel_rfl, by
            rw [upd_same e6]
            exact ⟨HJ.out.bl, fun e => HJ.out.p2 e, fun e => HJ.out.p3 e, fun e => HJ.out.p5 e, fun e => HJ.out.p6 e, fun _ => rfl, fun e => HJ.out.p9 e, fun e => HJ.out.p10 e, fun e => HJ.out.p11 e⟩⟩
        · refine wpOp_calm (o := ⟨some 47, ?c9a, ?c9b, ?c9c, ?c9d, ?c9e⟩) ?c9i ?c9g ?_
          case c9i => exact rfl
          case c9g => exact rfl
          intro K' Q' hK'
          have HK := Lib.hid hK'
          clear hK'
          have y2 := HXx.2 2 _ rfl
          have y3 := HXx.2 3 _ rfl
          have y4' := HXx.2 4 _ rfl
          have yl := HXx.1
          clear hJ
          simp only [setAll, List.foldl]
          go_simp
          exact HK.out _ _ ⟨upd u 47 (.agg #[.int .i64 yk, .string yt, .int .i64 yn]), by kernel_rfl, by
            exact ⟨HJ.out.bl, fun e => HJ.out.p2 e, fun e => HJ.out.p3 e, fun e => HJ.out.p5 e, fun e => HJ.out.p6 e, fun e => HJ.out.p7 e, fun _ => rfl, fun e => HJ.out.p10 e, fun e => HJ.out.p11 e⟩⟩
        · refine wpOp_calm (o := ⟨some 48, ?c10a, ?c10b, ?c10c, ?c10d, ?c10e⟩) ?c10i ?c10g ?_
          case c10i => exact rfl
          case c10g => exact rfl
          intro K' Q' hK'
          have HK := Lib.hid hK'
          clear hK'
          have e9 := HJ.out.p9 (hD 9 (by simp))
          have C := Lib.hid (CV0.out wx (p10x_below HPd.out HJ.out.bl))
          clear hJ
          simp only [setAll, List.foldl, e9]
          go_simp
          refine C.out.mono ?_
          rintro e w' ⟨rfl, hb⟩
          exact HK.out _ _ ⟨upd (upd u 47 (.agg #[.int .i64 yk, .string yt, .int .i64 yn])) 48 (.string vt), by kernel_rfl, by
            rw [upd_same e9]
            exact ⟨(HJ.out.bl.trans (hb.mono HJ.out.bl.size)), fun e => HJ.out.p2 e, fun e => HJ.out.p3 e, fun e => HJ.out.p5 e, fun e => HJ.out.p6 e, fun e => HJ.out.p7 e, fun e => HJ.out.p9 e, fun _ => rfl, fun e => HJ.out.p11 e⟩⟩
        · refine wpOp_calm (o := ⟨some 49, ?c11a, ?c11b, ?c11c, ?c11d, ?c11e⟩) ?c11i ?c11g ?_
          case c11i => exact rfl
          case c11g => exact rfl
          intro K' Q' hK'
          have HK := Lib.hid hK'
          clear hK'
          have e7 := HJ.out.p7 (hD 7 (by simp))
          have e10 := HJ.out.p10 (hD 10 (by simp))
          clear hJ
          simp only [setAll, List.foldl, e7, e10]
          go_simp
          exact HK.out _ _ ⟨upd (upd (upd u 45 (.string (yf ++ ⟨#[32]⟩ ++ ys ++ ⟨#[32]⟩))) 48 (.string vt)) 49 (.string (yf ++ ⟨#[32]⟩ ++ ys ++ ⟨#[32]⟩ ++ vt)), by kernel_rfl, by
            rw [upd_same e7, upd_same e10]
            exact ⟨HJ.out.bl, fun e => HJ.out.p2 e, fun e => HJ.out.p3 e, fun e => HJ.out.p5 e, fun e => HJ.out.p6 e, fun e => HJ.out.p7 e, fun e => HJ.out.p9 e, fun e => HJ.out.p10 e, fun _ => rfl⟩⟩
      case hendp =>
        intro b u wx hbx hJ
        have e2 := hJ.p2 (hbx 2 (by simp))
        have e3 := hJ.p3 (hbx 3 (by simp))
        have e5 := hJ.p5 (hbx 5 (by simp))
        have e6 := hJ.p6 (hbx 6 (by simp))
        have e7 := hJ.p7 (hbx 7 (by simp))
        have e9 := hJ.p9 (hbx 9 (by simp))
        have e10 := hJ.p10 (hbx 10 (by simp))
        have e11 := hJ.p11 (hbx 11 (by simp))
        have HTx := Lib.hid (HTd.out.below hJ.bl)
        simp only [setAll, List.foldl, e2, e3, e5, e6, e7, e9, e10, e11]
        clear e2 e3 e5 e6 e7 e9 e10 e11 hbx hJ HTd HXd HPd
        obtain ⟨tx, htx⟩ : ∃ z, yf ++ ⟨#[32]⟩ ++ ys ++ ⟨#[32]⟩ ++ vt = z := ⟨_, rfl⟩
        rw [htx] at HTK ⊢
        clear htx
        refine wpAny_ready (rs := [12]) (by kernel_rfl) (by simp) ?_
        refine AllReady.cons rfl (fun K9 hK9 => ?_) AllReady.nil
        go_simp
        refine hK9 _ _ ?_
        clear hK9 K9
        have HTc := Lib.hid (HTx.out.alloc (.cells #[.string tx] 9))
        have hcn := cells_new wx #[.string tx] 9
        have hown := HTc.out.own
        have hsz := HTc.out.hs
        refine wpAny_ready (rs := [13]) (by kernel_rfl) (by simp) ?_
        refine AllReady.cons rfl (fun K6 hK6 => ?_) AllReady.nil
        refine step_append_lies (o := ⟨some 51, _, _, _, _, _⟩) _ (by rfl) (.tmp 38) (.tmp 50) 44 (by rfl) y4.heap.size 9 i0 _ 1 16 Tryz.underlying44 hi hz0 hz1 hz2 rfl (by decide) u4 l.length _ (by kernel_rfl) hown ⟨wx.heap.size, 0, none⟩ 1 1 [.string tx] (by kernel_rfl) (by rfl) hcn (by simp [Value.oneCell']) (by decide) (by unfold maxLen; omega) (by omega) hsz _ rfl ?_
        intro g cap wy own' hgrow _ _
        have HTy := Lib.hid (HTc.out.app own' hgrow)
        rw [← HTK.out, hlen] at HTy
        refine hK6 _ _ ?_
        clear hK6 K6 own' hgrow hown hcn HTc HTx
        refine wpAny_ready (rs := [14]) (by kernel_rfl) (by simp) ?_
        refine AllReady.cons rfl (fun K8 hK8 => ?_) AllReady.nil
        go_simp
        refine hK8 _ _ ?_
        clear hK8 K8
        refine wpAny_done (by kernel_rfl) ?_ _
        go_wp2_with fail
        go_roundw
        case rel => exact ⟨k + 1, by omega, by go_num, HTy.out⟩
        case measure => simp [intOf]; omega
      --@end
    · --@r2
      obtain rfl : k = nw := by omega
      rw [List.take_of_length_le (by have := HNW.out; omega)] at HT
      have hll : (whs.map whX).length = k := by rw [List.length_map]; exact HNW.out
      have hwl : ∀ s ∈ whs.map whX, s.size ≤ 7000 := fun s hs => by
        obtain ⟨y, hy, rfl⟩ := List.mem_map.1 hs
        obtain ⟨p1, p2, p3⟩ := HWO.out y hy
        have h1 := vtB_size p3
        have h2 : y.val.text.size ≤ 1000 := Nat.le_trans p3.2.1 (by decide)
        show (y.field ++ ⟨#[32]⟩ ++ y.sign ++ ⟨#[32]⟩ ++ vtB y.val).size ≤ _
        rw [ap_size, ap_size, ap_size, ap_size]
        show _ + 1 + _ + 1 + _ ≤ _
        omega
      have hjs : (jn ⟨#[44, 32]⟩ (whs.map whX)).size ≤ 8000000 := by
        have h := jn_le ⟨#[44, 32]⟩ (whs.map whX) 7000 hwl
        rw [hll] at h
        have e : (⟨#[44, 32]⟩ : ByteArray).size = 2 := rfl
        rw [e] at h
        have : (2 + 7000) * k ≤ 7002 * 1000 := Nat.mul_le_mul_left _ o10
        omega
      have CJ := Lib.hid (fun w' (h : TxR y4 y4.heap.size u4 (whs.map whX) w') => join_own _ u4 (whs.map whX) ⟨#[44, 32]⟩ w' h.own (by omega) (by omega))
      rw [← HJ.out] at CJ hjs
      clear HJ hwl
      generalize whJ whs = J at *
      have hshape : ∃ a c, u4 = .slice a k c := by
        obtain ⟨-, ⟨e, h0⟩ | ⟨g, cap, cur, e, -⟩⟩ := HT.out.own
        · exact ⟨none, 0, by rw [e]; congr 1; omega⟩
        · exact ⟨_, _, by rw [e, hll]⟩
      obtain ⟨a4, c4, hu4⟩ := hshape
      have hr2 : R2.size ≤ 9000000 := by
        rw [HR2.out]
        split
        · omega
        · rw [ap_size, ap_size, ap_size]; show _ + (8 + _ + 1) ≤ _; omega
      have hr3 : R3.size ≤ 9001000 := by
        rw [HR3.out]
        split
        · rw [ap_size, ap_size]; show _ + (8 + _) ≤ _; omega
        · omega
      have HBr := Lib.hid (HB4.out.trans (HT.out.bl.mono HB4.out.size))
      have HXr := Lib.hid (HX4.out.below HT.out.bl)
      have HPr := Lib.hid (p10x_below HP4.out HT.out.bl)
      clear HX4 HB4 HP4 HW4 HWO
      subst hu4
      go_upto_if 55 with (fail)
      go_cut [3] (fun u wx => u = .string R2 ∧ Below wr.heap.size wr wx)
      case first =>
        by_cases hn0 : k = 0
        · subst hn0
          have HA := Lib.hid (HR2.out.trans (if_pos rfl))
          go_wp2_with fail
          go_meet
          exact ⟨by rw [HA.out], Below.refl _ _⟩
        · have HA := Lib.hid (HR2.out.trans (if_neg hn0))
          have hkp : 0 < k := by omega
          have hA0 : decide (0 < k) = true := decide_eq_true hkp
          have hz1 : ¬ (9223372036854775807 < 8 + J.size) := by omega
          have hz2 : ¬ (9223372036854775807 < 8 + J.size + 1) := by omega
          have hz3 : ¬ (9223372036854775807 < R1.size + (8 + J.size + 1)) := by omega
          go_wp2_with fail
          ((with_reducible refine (CJ.out _ HT.out).mono ?_); rintro e w1 ⟨rfl, hb⟩)
          have HB1 := Lib.hid hb
          clear hb
          go_wp2_with fail
          go_meet
          exact ⟨by rw [HA.out], HB1.out⟩
      case rest =>
      obtain ⟨rfl, hBc⟩ := hcut
      have HB1 := Lib.hid (HBr.out.trans (hBc.mono HBr.out.size))
      have HX1 := Lib.hid (HXr.out.below hBc)
      have HP1 := Lib.hid (p10x_below HPr.out hBc)
      clear HT CJ hBc HBr HXr HPr HR2
      have x6 := HX1.out.2 6 _ rfl
      have xl := HX1.out.1
      go_upto_if 64 with (fail)
      go_cut [3] (fun u wx => u = .string R3 ∧ Below wc.heap.size wc wx)
      case first =>
        by_cases hw : 0 < within
        · have hA1 : decide (0 < within) = true := decide_eq_true hw
          have HA := Lib.hid (HR3.out.trans (if_pos hw))
          have hz1 : ¬ (9223372036854775807 < 8 + sp.size) := by omega
          have hz2 : ¬ (9223372036854775807 < R2.size + (8 + sp.size)) := by omega
          go_wp2_with fail
          ((with_reducible refine (CS.out _ HP1.out).mono ?_); rintro e w1 ⟨rfl, hb⟩)
          have HBy := Lib.hid hb
          clear hb
          go_wp2_with fail
          go_meet
          exact ⟨by rw [HA.out], HBy.out⟩
        · have hA1 : decide (0 < within) = false := decide_eq_false hw
          have HA := Lib.hid (HR3.out.trans (if_neg hw))
          go_wp2_with fail
          go_meet
          exact ⟨by rw [HA.out], Below.refl _ _⟩
      case rest =>
      obtain ⟨rfl, hBc⟩ := hcut
      have HB2 := Lib.hid (HB1.out.trans (hBc.mono HB1.out.size))
      have HX2 := Lib.hid (HX1.out.below hBc)
      have HP2 := Lib.hid (p10x_below HP1.out hBc)
      clear HB1 HX1 HP1 hBc HR3 CS x6 xl
      have K0 := Lib.hid (fun w' (hb : Below wc.heap.size wc w') => (show (w'.cell? ⟨q0, 3, none⟩ = some (.string sign) ∧ w'.cell? ⟨q0, 7, none⟩ = some (.int .i64 number)) ∧ Below wc.heap.size wc w' from ⟨⟨(HX2.out.below hb).2 3 _ rfl, (HX2.out.below hb).2 7 _ rfl⟩, hb⟩))
      have x0 := HX2.out.2 0 _ rfl
      have xl := HX2.out.1
      by_cases h13 : kind = 13
      · have hA1 : (kind == 13) = true := by simpa using h13
        have HA := Lib.hid (HR.out.trans (if_pos h13))
        have CV := Lib.hid (fun w' (hb : Below wc.heap.size wc w') => CN.out h13 w' (p10x_below HP2.out hb))
        have hsn' := hsn h13
        have hz1 : ¬ (9223372036854775807 < 1 + sign.size) := by omega
        have hz2 : ¬ (9223372036854775807 < 1 + sign.size + 1) := by omega
        have hz3 : ¬ (9223372036854775807 < 1 + sign.size + 1 + sn.size) := by omega
        have hz4 : ¬ (9223372036854775807 < R3.size + (1 + sign.size + 1 + sn.size)) := by omega
        clear HR CN CI hsn h13 HX2 HP2
        go_upto_region 18 with (fail)
        go_region_held3 (fun w' => (w'.cell? ⟨q0, 3, none⟩ = some (.string sign) ∧ w'.cell? ⟨q0, 7, none⟩ = some (.int .i64 number)) ∧ Below wc.heap.size wc w')
          (first | assumption | (exact K0.out _ (Below.refl _ _).drew) | (refine K0.out _ (Below.trans (And.right (by assumption)) (hb.mono ?_)); exact (And.right (by assumption) : Below _ _ _).size))
          (first | (go_at_call 158; (with_reducible refine (CV.out _ (And.right (by assumption))).mono ?_); rintro e w' ⟨rfl, hb⟩))
        all_goals
          have hE : Below wc.heap.size wc _ := And.right (by assumption)
          have HE := Lib.hid (HB2.out.trans (hE.mono HB2.out.size))
          clear K0
          go_wp2_with fail
          go_ret
          exact ⟨ret_strX HA.out.symm, by have h := HE.out; exact h⟩
      · have hA1 : (kind == 13) = false := by simpa using h13
        have HR' := Lib.hid (HR.out.trans (if_neg h13))
        clear HR
        by_cases h12 : kind = 11 ∨ kind = 12
        · have HA := Lib.hid (HR'.out.trans (if_pos h12))
          have CV := Lib.hid (fun w' (hb : Below wc.heap.size wc w') => CI.out w' (p10x_below HP2.out hb))
          have hz1 : ¬ (9223372036854775807 < 1 + sign.size) := by omega
          have hz2 : ¬ (9223372036854775807 < 1 + sign.size + 1) := by omega
          have hz3 : ¬ (9223372036854775807 < 1 + sign.size + 1 + si.size) := by omega
          have hz4 : ¬ (9223372036854775807 < R3.size + (1 + sign.size + 1 + si.size)) := by omega
          clear HR' CN CI hsn h13 HX2 HP2
          rcases h12 with h | h
          · have hA2 : (kind == 11) = true := by simpa using h
            clear h
            go_upto_region 21 with (fail)
            go_region_held3 (fun w' => (w'.cell? ⟨q0, 3, none⟩ = some (.string sign) ∧ w'.cell? ⟨q0, 7, none⟩ = some (.int .i64 number)) ∧ Below wc.heap.size wc w')
              (first | assumption | (exact K0.out _ (Below.refl _ _).drew) | (refine K0.out _ (Below.trans (And.right (by assumption)) (hb.mono ?_)); exact (And.right (by assumption) : Below _ _ _).size))
              (first | (go_at_call 50; (with_reducible refine (CV.out _ (And.right (by assumption))).mono ?_); rintro e w' ⟨rfl, hb⟩))
            all_goals
              have hE : Below wc.heap.size wc _ := And.right (by assumption)
              have HE := Lib.hid (HB2.out.trans (hE.mono HB2.out.size))
              clear K0
              go_wp2_with fail
              go_ret
              exact ⟨ret_strX HA.out.symm, by have h := HE.out; exact h⟩
          · have hA2 : (kind == 11) = false := by simp; omega
            have hA3 : (kind == 12) = true := by simpa using h
            clear h
            go_upto_region 21 with (fail)
            go_region_held3 (fun w' => (w'.cell? ⟨q0, 3, none⟩ = some (.string sign) ∧ w'.cell? ⟨q0, 7, none⟩ = some (.int .i64 number)) ∧ Below wc.heap.size wc w')
              (first | assumption | (exact K0.out _ (Below.refl _ _).drew) | (refine K0.out _ (Below.trans (And.right (by assumption)) (hb.mono ?_)); exact (And.right (by assumption) : Below _ _ _).size))
              (first | (go_at_call 50; (with_reducible refine (CV.out _ (And.right (by assumption))).mono ?_); rintro e w' ⟨rfl, hb⟩))
            all_goals
              have hE : Below wc.heap.size wc _ := And.right (by assumption)
              have HE := Lib.hid (HB2.out.trans (hE.mono HB2.out.size))
              clear K0
              go_wp2_with fail
              go_ret
              exact ⟨ret_strX HA.out.symm, by have h := HE.out; exact h⟩
        · have HA := Lib.hid (HR'.out.trans (if_neg h12))
          have hA2 : (kind == 11) = false := by simp; omega
          have hA3 : (kind == 12) = false := by simp; omega
          clear HR' CN CI hsn h13 HX2 HP2 h12 K0
          go_wp2_with fail
          go_ret
          exact ⟨ret_strX HA.out.symm, by have h := HB2.out; exact h⟩
      --@end
end Go.Proofs.YtfdpfkdfglombaaGreatDoor
