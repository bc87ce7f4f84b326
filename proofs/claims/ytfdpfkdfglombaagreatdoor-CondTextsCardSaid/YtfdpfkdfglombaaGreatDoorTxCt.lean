/- handref1.CondText over whole conditions (printed by gen_txtr.py). -/
import Derived.Test.YtfdpfkdfglombaaGreatDoorTxTr
import Derived.Test.YtfdpfkdfglombaaGreatDoorTxCl
set_option linter.unusedVariables false
namespace Go.Proofs.YtfdpfkdfglombaaGreatDoor
open Go.RowKit

set_option maxHeartbeats 16000000 in
set_option maxRecDepth 100000 in
theorem ct5_any (d : Nat) (IH : WrIH 14 d) (c : Cn) (w : World) (hc : TAt (d + 1) w c) (hr : TxO (d + 1) c) (hsz : szN (d + 1) c ≤ 1000) (hk : c.nd.kind = 5) (hp : P10x w) :
    Calls Tryz.prog 14 #[c.agg] w (TxtO w (txT (d + 1) c)) := by
  obtain ⟨hok, ⟨ha1, ha2, ha3⟩, hV, hW, hA, hC⟩ := hc
  obtain ⟨hn, hro⟩ := hr
  have hl : 0 < c.args.length := hn.a1 hk
  have hm := List.getElem_mem hl
  have HR := Lib.hid (show txT (d + 1) c = ⟨#[110, 111, 116, 32]⟩ ++ inX 5 d c.args[0] from by
    have e : c.args.getD 0 default = c.args[0] := by rw [List.getD_eq_getElem?_getD, List.getElem?_eq_getElem hl]; rfl
    show (if c.nd.kind = 5 then _ else _) = _
    rw [if_pos hk, e]
    rfl)
  obtain ⟨p, off, haa, hca⟩ := CA.of hA hl
  have hsx : szN d c.args[0] ≤ 1000 := by have := szx_mem (d := d) hm; omega
  have hin := inX_size 5 hro _ hm
  have his : (inX 5 d c.args[0]).size ≤ 1000000 := by
    have : 613 * szN d c.args[0] ≤ 613 * 1000 := Nat.mul_le_mul_left _ hsx
    omega
  have CI0 := Lib.hid (fun w (hT : TAt d w c.args[0]) h => IH c.args[0] w hT (hro _ hm) hsx h)
  have HS := Lib.hid (show inX 5 d c.args[0] = if c.args[0].nd.kind = 4 ∨ (c.args[0].nd.kind = 3 ∧ (5 : Int) ≠ 4) then ⟨#[40]⟩ ++ txT d c.args[0] ++ ⟨#[41]⟩ else txT d c.args[0] from rfl)
  have hts := txT_size d c.args[0] (hro _ hm)
  have htx : (txT d c.args[0]).size ≤ 1000000 := by
    have : 613 * szN d c.args[0] ≤ 613 * 1000 := Nat.mul_le_mul_left _ hsx
    omega
  have HTx := Lib.hid (hC _ hm)
  generalize txT (d + 1) c = R at *
  generalize inX 5 d c.args[0] = s at *
  generalize txT d c.args[0] = t at *
  have hlx := hl
  generalize c.args[0] = x at *
  unfold Cn.agg at *
  unfold Cn.cells at hca
  clear hok ha1 ha2 ha3 hV hW hA hC hn hro hm hin hsx hsz IH
  obtain ⟨n, args⟩ := c
  obtain ⟨kind, name, field, sign, va, vc, vals, wa, wc, whs, within, number, aa, ac⟩ := n
  obtain ⟨n, xargs⟩ := x
  obtain ⟨xkind, xname, xfield, xsign, xva, xvc, xvals, xwa, xwc, xwhs, xwithin, xnumber, xaa, xac⟩ := n
  simp only [Cn.nd, Cn.args] at *
  subst hk
  subst haa
  obtain ⟨nv, hnv⟩ : ∃ z, vals.length = z := ⟨_, rfl⟩
  obtain ⟨nw, hnw⟩ : ∃ z, whs.length = z := ⟨_, rfl⟩
  obtain ⟨na, hna⟩ : ∃ z, args.length = z := ⟨_, rfl⟩
  obtain ⟨xnv, hxnv⟩ : ∃ z, xvals.length = z := ⟨_, rfl⟩
  obtain ⟨xnw, hxnw⟩ : ∃ z, xwhs.length = z := ⟨_, rfl⟩
  obtain ⟨xna, hxna⟩ : ∃ z, xargs.length = z := ⟨_, rfl⟩
  rw [hxnv, hxnw, hxna] at CI0 hca
  rw [hna] at hl
  have hl0 : decide (0 < na) = true := decide_eq_true hl
  rw [hnv, hnw, hna]
  clear hnv hnw hna hxnv hxnw hxna hlx
  have HCA := Lib.hid hca
  clear hca
  have HB := Lib.hid ((Below.refl w.heap.size w).alloc (Nat.le_refl _) (.cells #[.int .i64 5, .string name, .string field, .string sign, .slice va nv vc, .slice wa nw wc, .int .i64 within, .int .i64 number, .slice (some ⟨p, off, none⟩) na ac] 30))
  have HX := Lib.hid (XB.new w [.int .i64 5, .string name, .string field, .string sign, .slice va nv vc, .slice wa nw wc, .int .i64 within, .int .i64 number, .slice (some ⟨p, off, none⟩) na ac] 30)
  have HP := Lib.hid (p10x_below hp HB.out)
  simp only [List.toArray] at HX
  clear hp
  go_enter Tryz.func14, Tryz.ntmps14
  go_upto_region 22 with (fail)
  generalize w.alloc (.cells #[.int .i64 5, .string name, .string field, .string sign, .slice va nv vc, .slice wa nw wc, .int .i64 within, .int .i64 number, .slice (some ⟨p, off, none⟩) na ac] 30) = wb at *
  obtain ⟨q0, hq0⟩ : ∃ z, w.heap.size = z := ⟨_, rfl⟩
  rw [hq0] at HX ⊢
  have HQ0 := Lib.hid hq0
  clear hq0
  have HCA := Lib.hid (HCA.out.bl HB.out)
  have HTx := Lib.hid (HTx.out.below HB.out)
  have CV := Lib.hid (CI0.out wb HTx.out HP.out)
  have x8 := HX.out.2 8 _ rfl
  have xl := HX.out.1
  have cl := HCA.out.lt
  have c0 := HCA.out.c 0 _ rfl
  have c1 := HCA.out.c 1 _ rfl
  have c2 := HCA.out.c 2 _ rfl
  have c3 := HCA.out.c 3 _ rfl
  have c4 := HCA.out.c 4 _ rfl
  have c5 := HCA.out.c 5 _ rfl
  have c6 := HCA.out.c 6 _ rfl
  have c7 := HCA.out.c 7 _ rfl
  have c8 := HCA.out.c 8 _ rfl
  simp only [Nat.add_zero] at c0
  have hz1 : ¬ (9223372036854775807 < 4 + s.size) := by omega
  have hz2 : ¬ (9223372036854775807 < 1 + t.size) := by omega
  have hz3 : ¬ (9223372036854775807 < 1 + t.size + 1) := by omega
  have hz4 : ¬ (9223372036854775807 < 4 + t.size) := by omega
  have hz5 : ¬ (9223372036854775807 < 4 + (1 + t.size + 1)) := by omega
  clear CI0 HTx HP
  by_cases h3 : xkind = 3
  · have f3 : (xkind == 3) = true := by simpa using h3
    have f4 : (xkind == 4) = false := by simp; omega
    have HF := Lib.hid (HS.out.trans (if_pos (Or.inr ⟨h3, by decide⟩)))
    clear HS h3
    go_wp2_with fail
    ((with_reducible refine CV.out.mono ?_); rintro e w1 ⟨rfl, hb⟩)
    have HB1 := Lib.hid (HB.out.trans (hb.mono HB.out.size))
    have x8 := (HX.out.below hb).2 8 _ rfl
    have xl := (HX.out.below hb).1
    have c0 := (HCA.out.bl hb).c 0 _ rfl
    have cl := (HCA.out.bl hb).lt
    simp only [Nat.add_zero] at c0
    clear hb HX HCA CV
    go_wp2_with fail
    go_ret
    exact ⟨ret_strX (by rw [HR.out, HF.out]), by have h := HB1.out; rw [← HQ0.out] at *; exact h⟩
  · have f3 : (xkind == 3) = false := by simpa using h3
    by_cases h4 : xkind = 4
    · have f4 : (xkind == 4) = true := by simpa using h4
      have HF := Lib.hid (HS.out.trans (if_pos (Or.inl h4)))
      clear HS h3 h4
      go_wp2_with fail
      ((with_reducible refine CV.out.mono ?_); rintro e w1 ⟨rfl, hb⟩)
      have HB1 := Lib.hid (HB.out.trans (hb.mono HB.out.size))
      have x8 := (HX.out.below hb).2 8 _ rfl
      have xl := (HX.out.below hb).1
      have c0 := (HCA.out.bl hb).c 0 _ rfl
      have cl := (HCA.out.bl hb).lt
      simp only [Nat.add_zero] at c0
      clear hb HX HCA CV
      go_wp2_with fail
      go_ret
      exact ⟨ret_strX (by rw [HR.out, HF.out]), by have h := HB1.out; rw [← HQ0.out] at *; exact h⟩
    · have f4 : (xkind == 4) = false := by simpa using h4
      have HF := Lib.hid (HS.out.trans (if_neg (by rintro (h | h); exact h4 h; exact h3 h.1)))
      clear HS h3 h4
      go_wp2_with fail
      ((with_reducible refine CV.out.mono ?_); rintro e w1 ⟨rfl, hb⟩)
      have HB1 := Lib.hid (HB.out.trans (hb.mono HB.out.size))
      have x8 := (HX.out.below hb).2 8 _ rfl
      have xl := (HX.out.below hb).1
      have c0 := (HCA.out.bl hb).c 0 _ rfl
      have cl := (HCA.out.bl hb).lt
      simp only [Nat.add_zero] at c0
      clear hb HX HCA CV
      go_wp2_with fail
      go_ret
      exact ⟨ret_strX (by rw [HR.out, HF.out]), by have h := HB1.out; rw [← HQ0.out] at *; exact h⟩

set_option maxHeartbeats 16000000 in
set_option maxRecDepth 100000 in
theorem ct3_any (d : Nat) (IH : WrIH 14 d) (c : Cn) (w : World) (hc : TAt (d + 1) w c) (hr : TxO (d + 1) c) (hsz : szN (d + 1) c ≤ 1000) (hk : c.nd.kind = 3) (hp : P10x w) :
    Calls Tryz.prog 14 #[c.agg] w (TxtO w (txT (d + 1) c)) := by
  obtain ⟨i0, hi, hz0, hz1, hz2⟩ := info_parts infoStrX
  obtain ⟨hok, ⟨ha1, ha2, ha3'⟩, hV, hW, hA, hC⟩ := hc
  have ha3 : c.args.length ≤ 19 := ha3'
  obtain ⟨hn, hro⟩ := hr
  have HR := Lib.hid (show txT (d + 1) c = jn ⟨#[32, 97, 110, 100, 32]⟩ (c.args.map (inX 3 d)) from by
    unfold txT
    rw [if_neg (by omega), if_pos hk]
    rfl)
  have HJS := Lib.hid (jnX_size (c := c) 3 ⟨#[32, 97, 110, 100, 32]⟩ (by decide) hro hsz)
  have HSX := Lib.hid (fun x hx => (show szN d x ≤ 1000 by have := szx_mem (d := d) (c := c) (x := x) hx; omega))
  have HIS := Lib.hid (inX_size (c := c) 3 hro)
  have HO := Lib.hid hro
  have HI := Lib.hid IH
  have HA := Lib.hid hA
  have HC := Lib.hid hC
  generalize txT (d + 1) c = R at *
  clear hok ha1 ha2 ha3' hV hW hA hC hn hro hsz IH
  unfold Cn.agg
  obtain ⟨n, args⟩ := c
  obtain ⟨kind, name, field, sign, va, vc, vals, wa, wc, whs, within, number, aa, ac⟩ := n
  simp only [Cn.nd, Cn.args] at *
  subst hk
  obtain ⟨nv, hnv⟩ : ∃ z, vals.length = z := ⟨_, rfl⟩
  obtain ⟨nw, hnw⟩ : ∃ z, whs.length = z := ⟨_, rfl⟩
  obtain ⟨na, hna⟩ : ∃ z, args.length = z := ⟨_, rfl⟩
  have HNA := Lib.hid hna
  rw [hna] at ha3
  rw [hnv, hnw, hna]
  clear hnv hnw hna
  have HB := Lib.hid ((Below.refl w.heap.size w).alloc (Nat.le_refl _) (.cells #[.int .i64 3, .string name, .string field, .string sign, .slice va nv vc, .slice wa nw wc, .int .i64 within, .int .i64 number, .slice aa na ac] 30))
  have HX := Lib.hid (XB.new w [.int .i64 3, .string name, .string field, .string sign, .slice va nv vc, .slice wa nw wc, .int .i64 within, .int .i64 number, .slice aa na ac] 30)
  have HP := Lib.hid (p10x_below hp HB.out)
  simp only [List.toArray] at HX
  clear hp
  go_enter Tryz.func14, Tryz.ntmps14
  go_upto_region 1 with (fail)
  generalize w.alloc (.cells #[.int .i64 3, .string name, .string field, .string sign, .slice va nv vc, .slice wa nw wc, .int .i64 within, .int .i64 number, .slice aa na ac] 30) = wb at *
  obtain ⟨q0, hq0⟩ : ∃ z, w.heap.size = z := ⟨_, rfl⟩
  rw [hq0] at HX ⊢
  have HQ0 := Lib.hid hq0
  clear hq0
  have HA := Lib.hid (HA.out.below HB.out)
  have HC := Lib.hid (fun x hx => (HC.out x hx).below HB.out)
  have T0 := Lib.hid (TxR.nil wb)
  have x0 := HX.out.2 0 _ rfl
  have x8 := HX.out.2 8 _ rfl
  have xl := HX.out.1
  go_wp2_with fail
  clear x0 x8 xl
  go_loopw [4, 27] (fun v i wr => ∃ k : Nat, k ≤ na ∧ i = .int .i64 k ∧ TxR wb wb.heap.size v ((args.take k).map (inX 3 d)) wr) (fun _ i _ => na - (intOf i).toNat)
  case atStart => exact ⟨0, Nat.zero_le _, rfl, T0.out⟩
  case round =>
    obtain ⟨k, hk, rfl, hT⟩ := hrel
    have HT := Lib.hid hT
    clear hT T0
    by_cases hlt : k < na
    · --@ct3a
      have hkl : k < args.length := by have := HNA.out; omega
      have hm := List.getElem_mem hkl
      obtain ⟨pw, offw, rfl, hpw, c0, c1, c2, c3, c4, c5, c6, c7, c8⟩ := (HA.out.below HT.out.bl).at9c hkl
      have HTx := Lib.hid ((HC.out args[k] hm).below HT.out.bl)
      have HTK := Lib.hid (show (args.take (k + 1)).map (inX 3 d) = (args.take k).map (inX 3 d) ++ [inX 3 d args[k]] by rw [List.take_succ_eq_append_getElem hkl, List.map_append]; rfl)
      have hlen : ((args.take k).map (inX 3 d)).length = k := by rw [List.length_map, List.length_take]; omega
      have CI0 := Lib.hid (fun w (hT : TAt d w args[k]) h => HI.out args[k] w hT (HO.out _ hm) (HSX.out _ hm) h)
      have HS := Lib.hid (show inX 3 d args[k] = if args[k].nd.kind = 4 ∨ (args[k].nd.kind = 3 ∧ (3 : Int) ≠ 4) then ⟨#[40]⟩ ++ txT d args[k] ++ ⟨#[41]⟩ else txT d args[k] from rfl)
      have hts := txT_size d args[k] (HO.out _ hm)
      have htx : (txT d args[k]).size ≤ 1000000 := by
        have : 613 * szN d args[k] ≤ 613 * 1000 := Nat.mul_le_mul_left _ (HSX.out _ hm)
        omega
      clear hts
      generalize txT d args[k] = t at *
      generalize inX 3 d args[k] = s at *
      generalize args[k] = x at *
      unfold Cn.agg at *
      obtain ⟨n, xargs⟩ := x
      obtain ⟨xkind, xname, xfield, xsign, xva, xvc, xvals, xwa, xwc, xwhs, xwithin, xnumber, xaa, xac⟩ := n
      simp only [Cn.nd, Cn.args] at *
      obtain ⟨l, hl⟩ : ∃ z, (args.take k).map (inX 3 d) = z := ⟨_, rfl⟩
      rw [hl] at HT HTK hlen
      obtain ⟨xnv, hxnv⟩ : ∃ z, xvals.length = z := ⟨_, rfl⟩
      obtain ⟨xnw, hxnw⟩ : ∃ z, xwhs.length = z := ⟨_, rfl⟩
      obtain ⟨xna, hxna⟩ : ∃ z, xargs.length = z := ⟨_, rfl⟩
      rw [hxnv] at c4 CI0
      rw [hxnw] at c5 CI0
      rw [hxna] at c8 CI0
      clear hxnv hxnw hxna hl hm
      have HTa := Lib.hid (HT.out.alloc (.cells #[.int .i64 xkind, .string xname, .string xfield, .string xsign, .slice xva xnv xvc, .slice xwa xnw xwc, .int .i64 xwithin, .int .i64 xnumber, .slice xaa xna xac] 30))
      have HXw := Lib.hid (XB.new wr [.int .i64 xkind, .string xname, .string xfield, .string xsign, .slice xva xnv xvc, .slice xwa xnw xwc, .int .i64 xwithin, .int .i64 xnumber, .slice xaa xna xac] 30)
      simp only [List.toArray] at HXw
      have CV := Lib.hid (CI0.out _ (HTx.out.alloc (.cells #[.int .i64 xkind, .string xname, .string xfield, .string xsign, .slice xva xnv xvc, .slice xwa xnw xwc, .int .i64 xwithin, .int .i64 xnumber, .slice xaa xna xac] 30)) (p10x_below HP.out HTa.out.bl))
      have HXq := Lib.hid (HX.out.below HTa.out.bl)
      have y0 := HXw.out.2 0 _ rfl
      have y1 := HXw.out.2 1 _ rfl
      have y2 := HXw.out.2 2 _ rfl
      have y3 := HXw.out.2 3 _ rfl
      have y4 := HXw.out.2 4 _ rfl
      have y5 := HXw.out.2 5 _ rfl
      have y6 := HXw.out.2 6 _ rfl
      have y7 := HXw.out.2 7 _ rfl
      have y8 := HXw.out.2 8 _ rfl
      have yl := HXw.out.1
      have x0 := HXq.out.2 0 _ rfl
      have xl := HXq.out.1
      clear HT CI0 HTx
      go_wp2_with fail
      ((with_reducible refine CV.out.mono ?_); rintro e w3 ⟨rfl, hb⟩)
      have HT3 := Lib.hid (HTa.out.below hb)
      clear CV HTa c0 c1 c2 c3 c4 c5 c6 c7 c8 y0 y1 y2 y3 y4 y5 y6 y7 y8 yl x0 xl hpw
      have y0 := (HXw.out.below hb).2 0 _ rfl
      have yl := (HXw.out.below hb).1
      have x0 := (HXq.out.below hb).2 0 _ rfl
      have xl := (HXq.out.below hb).1
      clear HXw HXq hb
      have hz3 : ¬ (9223372036854775807 < 1 + t.size) := by omega
      have hz4 : ¬ (9223372036854775807 < 1 + t.size + 1) := by omega
      by_cases h4 : xkind = 4
      · have f4 : (xkind == 4) = true := by simpa using h4
        have f3 : (xkind == 3) = false := by simp; omega
        obtain rfl := HS.out.trans (if_pos (Or.inl h4))
        clear HS h4
        have own5 := HT3.out.own
        have hsz := HT3.out.hs
        go_wp2_with (at_builtin; refine wpList_append_own _ rfl _ _ 44 rfl wb.heap.size 9 i0 _ 1 16 Tryz.underlying44 hi hz0 hz1 hz2 rfl (by decide) _ _ _ rfl (own5.alloc _) ⟨w3.heap.size, 0, none⟩ 1 1 [.string (⟨#[40]⟩ ++ t ++ ⟨#[41]⟩)] rfl rfl ?c1 ?c2 ?c3 ?c4 ?c5 ?_)
        case c1 => exact cells_new w3 #[.string (⟨#[40]⟩ ++ t ++ ⟨#[41]⟩)] 9
        case c2 => simp [Value.oneCell']
        case c3 => unfold maxLen; omega
        case c4 => omega
        case c5 => simp; omega
        intro v2 w6 own6 hgrow6 hne6
        have HT6 := Lib.hid ((HT3.out.alloc (.cells #[.string (⟨#[40]⟩ ++ t ++ ⟨#[41]⟩)] 9)).app (by rw [hlen]; exact own6) hgrow6)
        rw [← HTK.out] at HT6
        clear own6 hgrow6 hne6 own5 HT3
        go_wp2_with fail
        go_roundw
        case rel => exact ⟨k + 1, by omega, by go_num, HT6.out⟩
        case measure => simp [intOf]; omega
      · have f4 : (xkind == 4) = false := by simpa using h4
        by_cases h3 : xkind = 3
        · have f3 : (xkind == 3) = true := by simpa using h3
          obtain rfl := HS.out.trans (if_pos (Or.inr ⟨h3, by decide⟩))
          clear HS h3 h4
          have own5 := HT3.out.own
          have hsz := HT3.out.hs
          go_wp2_with (at_builtin; refine wpList_append_own _ rfl _ _ 44 rfl wb.heap.size 9 i0 _ 1 16 Tryz.underlying44 hi hz0 hz1 hz2 rfl (by decide) _ _ _ rfl (own5.alloc _) ⟨w3.heap.size, 0, none⟩ 1 1 [.string (⟨#[40]⟩ ++ t ++ ⟨#[41]⟩)] rfl rfl ?c1 ?c2 ?c3 ?c4 ?c5 ?_)
          case c1 => exact cells_new w3 #[.string (⟨#[40]⟩ ++ t ++ ⟨#[41]⟩)] 9
          case c2 => simp [Value.oneCell']
          case c3 => unfold maxLen; omega
          case c4 => omega
          case c5 => simp; omega
          intro v2 w6 own6 hgrow6 hne6
          have HT6 := Lib.hid ((HT3.out.alloc (.cells #[.string (⟨#[40]⟩ ++ t ++ ⟨#[41]⟩)] 9)).app (by rw [hlen]; exact own6) hgrow6)
          rw [← HTK.out] at HT6
          clear own6 hgrow6 hne6 own5 HT3
          go_wp2_with fail
          go_roundw
          case rel => exact ⟨k + 1, by omega, by go_num, HT6.out⟩
          case measure => simp [intOf]; omega
        · have f3 : (xkind == 3) = false := by simpa using h3
          obtain rfl := HS.out.trans (if_neg (by rintro (h | h); exact h4 h; exact h3 h.1))
          clear HS h3 h4
          have own5 := HT3.out.own
          have hsz := HT3.out.hs
          go_wp2_with (at_builtin; refine wpList_append_own _ rfl _ _ 44 rfl wb.heap.size 9 i0 _ 1 16 Tryz.underlying44 hi hz0 hz1 hz2 rfl (by decide) _ _ _ rfl (own5.alloc _) ⟨w3.heap.size, 0, none⟩ 1 1 [.string s] rfl rfl ?c1 ?c2 ?c3 ?c4 ?c5 ?_)
          case c1 => exact cells_new w3 #[.string s] 9
          case c2 => simp [Value.oneCell']
          case c3 => unfold maxLen; omega
          case c4 => omega
          case c5 => simp; omega
          intro v2 w6 own6 hgrow6 hne6
          have HT6 := Lib.hid ((HT3.out.alloc (.cells #[.string s] 9)).app (by rw [hlen]; exact own6) hgrow6)
          rw [← HTK.out] at HT6
          clear own6 hgrow6 hne6 own5 HT3
          go_wp2_with fail
          go_roundw
          case rel => exact ⟨k + 1, by omega, by go_num, HT6.out⟩
          case measure => simp [intOf]; omega
      --@end
    · --@ct3b
      obtain rfl : k = na := by omega
      rw [List.take_of_length_le (by have := HNA.out; omega)] at HT
      have hll : (args.map (inX 3 d)).length = k := by rw [List.length_map]; exact HNA.out
      have hjs := HJS.out
      have CJ := Lib.hid (join_own _ u4 (args.map (inX 3 d)) ⟨#[32, 97, 110, 100, 32]⟩ wr HT.out.own (by omega) (by omega))
      rw [← HR.out] at CJ
      have hshape : ∃ a c, u4 = .slice a k c := by
        obtain ⟨-, ⟨e, h0⟩ | ⟨g, cap, cur, e, -⟩⟩ := HT.out.own
        · exact ⟨none, 0, by rw [e]; congr 1; omega⟩
        · exact ⟨_, _, by rw [e, hll]⟩
      obtain ⟨a4, c4, hu4⟩ := hshape
      have HBr := Lib.hid (HB.out.trans (HT.out.bl.mono HB.out.size))
      have x0 := (HX.out.below HT.out.bl).2 0 _ rfl
      have xl := (HX.out.below HT.out.bl).1
      subst hu4
      clear HX HP HT HB HJS HSX HIS HO HI HA HC HNA hll hjs HR
      go_wp2_with fail
      ((with_reducible refine CJ.out.mono ?_); rintro e w1 ⟨rfl, hb⟩)
      have HB1 := Lib.hid (HBr.out.trans (hb.mono HBr.out.size))
      clear hb
      go_wp2_with fail
      go_ret
      exact ⟨rfl, by have h := HB1.out; rw [← HQ0.out] at *; exact h⟩
      --@end

set_option maxHeartbeats 16000000 in
set_option maxRecDepth 100000 in
theorem ct4_any (d : Nat) (IH : WrIH 14 d) (c : Cn) (w : World) (hc : TAt (d + 1) w c) (hr : TxO (d + 1) c) (hsz : szN (d + 1) c ≤ 1000) (hk : c.nd.kind = 4) (hp : P10x w) :
    Calls Tryz.prog 14 #[c.agg] w (TxtO w (txT (d + 1) c)) := by
  obtain ⟨i0, hi, hz0, hz1, hz2⟩ := info_parts infoStrX
  obtain ⟨hok, ⟨ha1, ha2, ha3'⟩, hV, hW, hA, hC⟩ := hc
  have ha3 : c.args.length ≤ 19 := ha3'
  obtain ⟨hn, hro⟩ := hr
  have HR := Lib.hid (show txT (d + 1) c = jn ⟨#[32, 111, 114, 32]⟩ (c.args.map (inX 4 d)) from by
    unfold txT
    rw [if_neg (by omega), if_neg (by omega), if_pos hk]
    rfl)
  have HJS := Lib.hid (jnX_size (c := c) 4 ⟨#[32, 111, 114, 32]⟩ (by decide) hro hsz)
  have HSX := Lib.hid (fun x hx => (show szN d x ≤ 1000 by have := szx_mem (d := d) (c := c) (x := x) hx; omega))
  have HIS := Lib.hid (inX_size (c := c) 4 hro)
  have HO := Lib.hid hro
  have HI := Lib.hid IH
  have HA := Lib.hid hA
  have HC := Lib.hid hC
  generalize txT (d + 1) c = R at *
  clear hok ha1 ha2 ha3' hV hW hA hC hn hro hsz IH
  unfold Cn.agg
  obtain ⟨n, args⟩ := c
  obtain ⟨kind, name, field, sign, va, vc, vals, wa, wc, whs, within, number, aa, ac⟩ := n
  simp only [Cn.nd, Cn.args] at *
  subst hk
  obtain ⟨nv, hnv⟩ : ∃ z, vals.length = z := ⟨_, rfl⟩
  obtain ⟨nw, hnw⟩ : ∃ z, whs.length = z := ⟨_, rfl⟩
  obtain ⟨na, hna⟩ : ∃ z, args.length = z := ⟨_, rfl⟩
  have HNA := Lib.hid hna
  rw [hna] at ha3
  rw [hnv, hnw, hna]
  clear hnv hnw hna
  have HB := Lib.hid ((Below.refl w.heap.size w).alloc (Nat.le_refl _) (.cells #[.int .i64 4, .string name, .string field, .string sign, .slice va nv vc, .slice wa nw wc, .int .i64 within, .int .i64 number, .slice aa na ac] 30))
  have HX := Lib.hid (XB.new w [.int .i64 4, .string name, .string field, .string sign, .slice va nv vc, .slice wa nw wc, .int .i64 within, .int .i64 number, .slice aa na ac] 30)
  have HP := Lib.hid (p10x_below hp HB.out)
  simp only [List.toArray] at HX
  clear hp
  go_enter Tryz.func14, Tryz.ntmps14
  go_upto_region 1 with (fail)
  generalize w.alloc (.cells #[.int .i64 4, .string name, .string field, .string sign, .slice va nv vc, .slice wa nw wc, .int .i64 within, .int .i64 number, .slice aa na ac] 30) = wb at *
  obtain ⟨q0, hq0⟩ : ∃ z, w.heap.size = z := ⟨_, rfl⟩
  rw [hq0] at HX ⊢
  have HQ0 := Lib.hid hq0
  clear hq0
  have HA := Lib.hid (HA.out.below HB.out)
  have HC := Lib.hid (fun x hx => (HC.out x hx).below HB.out)
  have T0 := Lib.hid (TxR.nil wb)
  have x0 := HX.out.2 0 _ rfl
  have x8 := HX.out.2 8 _ rfl
  have xl := HX.out.1
  go_wp2_with fail
  clear x0 x8 xl
  go_loopw [4, 27] (fun v i wr => ∃ k : Nat, k ≤ na ∧ i = .int .i64 k ∧ TxR wb wb.heap.size v ((args.take k).map (inX 4 d)) wr) (fun _ i _ => na - (intOf i).toNat)
  case atStart => exact ⟨0, Nat.zero_le _, rfl, T0.out⟩
  case round =>
    obtain ⟨k, hk, rfl, hT⟩ := hrel
    have HT := Lib.hid hT
    clear hT T0
    by_cases hlt : k < na
    · --@ct4a
      have hkl : k < args.length := by have := HNA.out; omega
      have hm := List.getElem_mem hkl
      obtain ⟨pw, offw, rfl, hpw, c0, c1, c2, c3, c4, c5, c6, c7, c8⟩ := (HA.out.below HT.out.bl).at9c hkl
      have HTx := Lib.hid ((HC.out args[k] hm).below HT.out.bl)
      have HTK := Lib.hid (show (args.take (k + 1)).map (inX 4 d) = (args.take k).map (inX 4 d) ++ [inX 4 d args[k]] by rw [List.take_succ_eq_append_getElem hkl, List.map_append]; rfl)
      have hlen : ((args.take k).map (inX 4 d)).length = k := by rw [List.length_map, List.length_take]; omega
      have CI0 := Lib.hid (fun w (hT : TAt d w args[k]) h => HI.out args[k] w hT (HO.out _ hm) (HSX.out _ hm) h)
      have HS := Lib.hid (show inX 4 d args[k] = if args[k].nd.kind = 4 ∨ (args[k].nd.kind = 3 ∧ (4 : Int) ≠ 4) then ⟨#[40]⟩ ++ txT d args[k] ++ ⟨#[41]⟩ else txT d args[k] from rfl)
      have hts := txT_size d args[k] (HO.out _ hm)
      have htx : (txT d args[k]).size ≤ 1000000 := by
        have : 613 * szN d args[k] ≤ 613 * 1000 := Nat.mul_le_mul_left _ (HSX.out _ hm)
        omega
      clear hts
      generalize txT d args[k] = t at *
      generalize inX 4 d args[k] = s at *
      generalize args[k] = x at *
      unfold Cn.agg at *
      obtain ⟨n, xargs⟩ := x
      obtain ⟨xkind, xname, xfield, xsign, xva, xvc, xvals, xwa, xwc, xwhs, xwithin, xnumber, xaa, xac⟩ := n
      simp only [Cn.nd, Cn.args] at *
      obtain ⟨l, hl⟩ : ∃ z, (args.take k).map (inX 4 d) = z := ⟨_, rfl⟩
      rw [hl] at HT HTK hlen
      obtain ⟨xnv, hxnv⟩ : ∃ z, xvals.length = z := ⟨_, rfl⟩
      obtain ⟨xnw, hxnw⟩ : ∃ z, xwhs.length = z := ⟨_, rfl⟩
      obtain ⟨xna, hxna⟩ : ∃ z, xargs.length = z := ⟨_, rfl⟩
      rw [hxnv] at c4 CI0
      rw [hxnw] at c5 CI0
      rw [hxna] at c8 CI0
      clear hxnv hxnw hxna hl hm
      have HTa := Lib.hid (HT.out.alloc (.cells #[.int .i64 xkind, .string xname, .string xfield, .string xsign, .slice xva xnv xvc, .slice xwa xnw xwc, .int .i64 xwithin, .int .i64 xnumber, .slice xaa xna xac] 30))
      have HXw := Lib.hid (XB.new wr [.int .i64 xkind, .string xname, .string xfield, .string xsign, .slice xva xnv xvc, .slice xwa xnw xwc, .int .i64 xwithin, .int .i64 xnumber, .slice xaa xna xac] 30)
      simp only [List.toArray] at HXw
      have CV := Lib.hid (CI0.out _ (HTx.out.alloc (.cells #[.int .i64 xkind, .string xname, .string xfield, .string xsign, .slice xva xnv xvc, .slice xwa xnw xwc, .int .i64 xwithin, .int .i64 xnumber, .slice xaa xna xac] 30)) (p10x_below HP.out HTa.out.bl))
      have HXq := Lib.hid (HX.out.below HTa.out.bl)
      have y0 := HXw.out.2 0 _ rfl
      have y1 := HXw.out.2 1 _ rfl
      have y2 := HXw.out.2 2 _ rfl
      have y3 := HXw.out.2 3 _ rfl
      have y4 := HXw.out.2 4 _ rfl
      have y5 := HXw.out.2 5 _ rfl
      have y6 := HXw.out.2 6 _ rfl
      have y7 := HXw.out.2 7 _ rfl
      have y8 := HXw.out.2 8 _ rfl
      have yl := HXw.out.1
      have x0 := HXq.out.2 0 _ rfl
      have xl := HXq.out.1
      clear HT CI0 HTx
      go_wp2_with fail
      ((with_reducible refine CV.out.mono ?_); rintro e w3 ⟨rfl, hb⟩)
      have HT3 := Lib.hid (HTa.out.below hb)
      clear CV HTa c0 c1 c2 c3 c4 c5 c6 c7 c8 y0 y1 y2 y3 y4 y5 y6 y7 y8 yl x0 xl hpw
      have y0 := (HXw.out.below hb).2 0 _ rfl
      have yl := (HXw.out.below hb).1
      have x0 := (HXq.out.below hb).2 0 _ rfl
      have xl := (HXq.out.below hb).1
      clear HXw HXq hb
      have hz3 : ¬ (9223372036854775807 < 1 + t.size) := by omega
      have hz4 : ¬ (9223372036854775807 < 1 + t.size + 1) := by omega
      by_cases h4 : xkind = 4
      · have f4 : (xkind == 4) = true := by simpa using h4
        have f3 : (xkind == 3) = false := by simp; omega
        obtain rfl := HS.out.trans (if_pos (Or.inl h4))
        clear HS h4
        have own5 := HT3.out.own
        have hsz := HT3.out.hs
        go_wp2_with (at_builtin; refine wpList_append_own _ rfl _ _ 44 rfl wb.heap.size 9 i0 _ 1 16 Tryz.underlying44 hi hz0 hz1 hz2 rfl (by decide) _ _ _ rfl (own5.alloc _) ⟨w3.heap.size, 0, none⟩ 1 1 [.string (⟨#[40]⟩ ++ t ++ ⟨#[41]⟩)] rfl rfl ?c1 ?c2 ?c3 ?c4 ?c5 ?_)
        case c1 => exact cells_new w3 #[.string (⟨#[40]⟩ ++ t ++ ⟨#[41]⟩)] 9
        case c2 => simp [Value.oneCell']
        case c3 => unfold maxLen; omega
        case c4 => omega
        case c5 => simp; omega
        intro v2 w6 own6 hgrow6 hne6
        have HT6 := Lib.hid ((HT3.out.alloc (.cells #[.string (⟨#[40]⟩ ++ t ++ ⟨#[41]⟩)] 9)).app (by rw [hlen]; exact own6) hgrow6)
        rw [← HTK.out] at HT6
        clear own6 hgrow6 hne6 own5 HT3
        go_wp2_with fail
        go_roundw
        case rel => exact ⟨k + 1, by omega, by go_num, HT6.out⟩
        case measure => simp [intOf]; omega
      · have f4 : (xkind == 4) = false := by simpa using h4
        by_cases h3 : xkind = 3
        · have f3 : (xkind == 3) = true := by simpa using h3
          obtain rfl := HS.out.trans (if_neg (by rintro (h | h); exact h4 h; exact h.2 rfl))
          clear HS h3 h4
          have own5 := HT3.out.own
          have hsz := HT3.out.hs
          go_wp2_with (at_builtin; refine wpList_append_own _ rfl _ _ 44 rfl wb.heap.size 9 i0 _ 1 16 Tryz.underlying44 hi hz0 hz1 hz2 rfl (by decide) _ _ _ rfl (own5.alloc _) ⟨w3.heap.size, 0, none⟩ 1 1 [.string s] rfl rfl ?c1 ?c2 ?c3 ?c4 ?c5 ?_)
          case c1 => exact cells_new w3 #[.string s] 9
          case c2 => simp [Value.oneCell']
          case c3 => unfold maxLen; omega
          case c4 => omega
          case c5 => simp; omega
          intro v2 w6 own6 hgrow6 hne6
          have HT6 := Lib.hid ((HT3.out.alloc (.cells #[.string s] 9)).app (by rw [hlen]; exact own6) hgrow6)
          rw [← HTK.out] at HT6
          clear own6 hgrow6 hne6 own5 HT3
          go_wp2_with fail
          go_roundw
          case rel => exact ⟨k + 1, by omega, by go_num, HT6.out⟩
          case measure => simp [intOf]; omega
        · have f3 : (xkind == 3) = false := by simpa using h3
          obtain rfl := HS.out.trans (if_neg (by rintro (h | h); exact h4 h; exact h3 h.1))
          clear HS h3 h4
          have own5 := HT3.out.own
          have hsz := HT3.out.hs
          go_wp2_with (at_builtin; refine wpList_append_own _ rfl _ _ 44 rfl wb.heap.size 9 i0 _ 1 16 Tryz.underlying44 hi hz0 hz1 hz2 rfl (by decide) _ _ _ rfl (own5.alloc _) ⟨w3.heap.size, 0, none⟩ 1 1 [.string s] rfl rfl ?c1 ?c2 ?c3 ?c4 ?c5 ?_)
          case c1 => exact cells_new w3 #[.string s] 9
          case c2 => simp [Value.oneCell']
          case c3 => unfold maxLen; omega
          case c4 => omega
          case c5 => simp; omega
          intro v2 w6 own6 hgrow6 hne6
          have HT6 := Lib.hid ((HT3.out.alloc (.cells #[.string s] 9)).app (by rw [hlen]; exact own6) hgrow6)
          rw [← HTK.out] at HT6
          clear own6 hgrow6 hne6 own5 HT3
          go_wp2_with fail
          go_roundw
          case rel => exact ⟨k + 1, by omega, by go_num, HT6.out⟩
          case measure => simp [intOf]; omega
      --@end
    · --@ct4b
      obtain rfl : k = na := by omega
      rw [List.take_of_length_le (by have := HNA.out; omega)] at HT
      have hll : (args.map (inX 4 d)).length = k := by rw [List.length_map]; exact HNA.out
      have hjs := HJS.out
      have CJ := Lib.hid (join_own _ u4 (args.map (inX 4 d)) ⟨#[32, 111, 114, 32]⟩ wr HT.out.own (by omega) (by omega))
      rw [← HR.out] at CJ
      have hshape : ∃ a c, u4 = .slice a k c := by
        obtain ⟨-, ⟨e, h0⟩ | ⟨g, cap, cur, e, -⟩⟩ := HT.out.own
        · exact ⟨none, 0, by rw [e]; congr 1; omega⟩
        · exact ⟨_, _, by rw [e, hll]⟩
      obtain ⟨a4, c4, hu4⟩ := hshape
      have HBr := Lib.hid (HB.out.trans (HT.out.bl.mono HB.out.size))
      have x0 := (HX.out.below HT.out.bl).2 0 _ rfl
      have xl := (HX.out.below HT.out.bl).1
      subst hu4
      clear HX HP HT HB HJS HSX HIS HO HI HA HC HNA hll hjs HR
      go_wp2_with fail
      ((with_reducible refine CJ.out.mono ?_); rintro e w1 ⟨rfl, hb⟩)
      have HB1 := Lib.hid (HBr.out.trans (hb.mono HBr.out.size))
      clear hb
      go_wp2_with fail
      go_ret
      exact ⟨rfl, by have h := HB1.out; rw [← HQ0.out] at *; exact h⟩
      --@end

theorem CondText_any : ∀ (d : Nat), WrIH 14 d
  | 0, _, _, h, _, _, _ => h.elim
  | d + 1, c, w, hT, hO, hsz, hp => by
    have IH := CondText_any d
    have hn := hO.1
    have h1 := hn.k1
    have h2 := hn.k2
    by_cases h3 : c.nd.kind = 3
    · exact ct3_any d IH c w hT hO hsz h3 hp
    by_cases h4 : c.nd.kind = 4
    · exact ct4_any d IH c w hT hO hsz h4 hp
    by_cases h5 : c.nd.kind = 5
    · exact ct5_any d IH c w hT hO hsz h5 hp
    have e : txT (d + 1) c = ndB c.nd := by unfold txT; rw [if_neg h5, if_neg h3, if_neg h4]
    rw [e]
    obtain ⟨hok, -, hV, hW, -, -⟩ := hT
    unfold Cn.agg
    by_cases k1 : c.nd.kind = 1
    · exact ct1_any c.nd c.args.length w hok hV hW hn k1 hp
    by_cases k2 : c.nd.kind = 2
    · exact ct2_any c.nd c.args.length w hok hV hW hn k2 hp
    by_cases k6 : c.nd.kind = 6
    · exact ct6_any c.nd c.args.length w hok hV hW hn k6 hp
    by_cases k7 : c.nd.kind = 7
    · exact ct7_any c.nd c.args.length w hok hV hW hn k7 hp
    by_cases k8 : c.nd.kind = 8
    · exact ct8_any c.nd c.args.length w hok hV hW hn k8 hp
    by_cases k9 : c.nd.kind = 9
    · exact ct9_any c.nd c.args.length w hok hV hW hn k9 hp
    by_cases k10 : c.nd.kind = 10
    · exact ct10_any c.nd c.args.length w hok hV hW hn k10 hp
    by_cases k11 : c.nd.kind = 11
    · exact ct11_any c.nd c.args.length w hok hV hW hn k11 hp
    by_cases k12 : c.nd.kind = 12
    · exact ct12_any c.nd c.args.length w hok hV hW hn k12 hp
    by_cases k13 : c.nd.kind = 13
    · exact ct13_any c.nd c.args.length w hok hV hW hn k13 hp
    exact ct14_any c.nd c.args.length w hok hV hW hn (by omega) hp
end Go.Proofs.YtfdpfkdfglombaaGreatDoor
