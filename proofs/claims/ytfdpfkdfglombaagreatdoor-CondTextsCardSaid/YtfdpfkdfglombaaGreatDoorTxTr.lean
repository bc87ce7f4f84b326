/- segment.write over whole conditions (printed by gen_txtr.py). -/
import Derived.Test.YtfdpfkdfglombaaGreatDoorTxWr
set_option linter.unusedVariables false
namespace Go.Proofs.YtfdpfkdfglombaaGreatDoor
open Go.RowKit

/-- a condition's cells, that lie there -/
structure CA (w : World) (p off : Nat) (l : List Value) : Prop where
  lt : p < w.heap.size
  c : ∀ i v, l[i]? = some v → w.cell? ⟨p, off + i, none⟩ = some v
theorem CA.bl {w w' : World} {p off : Nat} {l : List Value} (h : CA w p off l) (hb : Below w.heap.size w w') : CA w' p off l :=
  ⟨Nat.lt_of_lt_of_le h.lt hb.size, fun i v hv => (hb.cell (p := ⟨p, off + i, none⟩) h.lt).trans (h.c i v hv)⟩
theorem CA.of {w : World} {a : Option Addr} {l : List Cn} (h : RAt w a 9 Cn.cells l) (hl : 0 < l.length) : ∃ p off, a = some ⟨p, off, none⟩ ∧ CA w p off l[0].cells := by
  obtain ⟨p, off, h1, h2, h3⟩ := h 0 hl
  refine ⟨p, off, h1, h2, fun i v hv => ?_⟩
  have := h3 i v hv
  rw [Nat.zero_mul, Nat.add_zero] at this
  exact this
/-- it writes the text of what is at most d deep -/
def WrIH (f : FuncId) (d : Nat) : Prop := ∀ (c : Cn) (w : World), TAt d w c → TxO d c → szN d c ≤ 1000 → P10x w → Calls Tryz.prog f #[c.agg] w (TxtO w (txT d c))
def inX (k : Int) (d : Nat) (x : Cn) : ByteArray := inB k x.nd.kind (txT d x)
theorem szx_mem {d : Nat} {c x : Cn} (h : x ∈ c.args) : szN d x + 1 ≤ szN (d + 1) c := by
  have key : ∀ l : List Cn, x ∈ l → szN d x ≤ (l.map (szN d)).sum := by
    intro l
    induction l with
    | nil => intro h; cases h
    | cons y r ih =>
      intro h
      rw [List.map_cons, List.sum_cons]
      rcases List.mem_cons.1 h with rfl | h
      · omega
      · have := ih h; omega
  have := key c.args h
  show _ ≤ 1 + (c.args.map (szN d)).sum
  omega
theorem inX_size {d : Nat} {c : Cn} (k : Int) (h : ∀ x ∈ c.args, TxO d x) : ∀ x ∈ c.args, (inX k d x).size + 5 ≤ 613 * szN d x := fun x hx => by
  have := txT_size d x (h x hx)
  have := inB_size k x.nd.kind (txT d x)
  unfold inX
  omega
theorem jnX_size {d : Nat} {c : Cn} (k : Int) (sep : ByteArray) (hs : sep.size ≤ 5) (h : ∀ x ∈ c.args, TxO d x) (hsz : szN (d + 1) c ≤ 1000) : (jn sep (c.args.map (inX k d))).size ≤ 613000 := by
  have h1 := jn_sum sep c.args (inX k d) (szN d) hs (inX_size k h)
  have e : szN (d + 1) c = 1 + (c.args.map (szN d)).sum := rfl
  have : 613 * (c.args.map (szN d)).sum ≤ 613 * 1000 := Nat.mul_le_mul_left _ (by omega)
  omega
set_option maxHeartbeats 16000000 in
set_option maxRecDepth 100000 in
theorem inner_any (d : Nat) (IH : WrIH 44 d) (c : Cn) (k : Int) (w : World) (hT : TAt d w c) (hO : TxO d c) (hsz : szN d c ≤ 1000) (hp : P10x w) :
    Calls Tryz.prog 90 #[c.agg, .int .i64 k] w (TxtO w (inX k d c)) := by
  have hts := txT_size d c hO
  have htx : (txT d c).size ≤ 1000000 := by
    have : 613 * szN d c ≤ 613 * 1000 := Nat.mul_le_mul_left _ hsz
    omega
  have CI0 := Lib.hid (fun w hT h => IH c w hT hO hsz h)
  have HR := Lib.hid (show inX k d c = if c.nd.kind = 4 ∨ (c.nd.kind = 3 ∧ k ≠ 4) then ⟨#[40]⟩ ++ txT d c ++ ⟨#[41]⟩ else txT d c from rfl)
  generalize inX k d c = R at *
  generalize txT d c = t at *
  have HT := Lib.hid hT
  clear hts hT hO hsz IH
  unfold Cn.agg at *
  obtain ⟨n, args⟩ := c
  obtain ⟨kind, name, field, sign, va, vc, vals, wa, wc, whs, within, number, aa, ac⟩ := n
  simp only [Cn.nd, Cn.args] at *
  obtain ⟨nv, hnv⟩ : ∃ z, vals.length = z := ⟨_, rfl⟩
  rw [hnv] at CI0 ⊢
  obtain ⟨nw, hnw⟩ : ∃ z, whs.length = z := ⟨_, rfl⟩
  rw [hnw] at CI0 ⊢
  obtain ⟨na, hna⟩ : ∃ z, args.length = z := ⟨_, rfl⟩
  rw [hna] at CI0 ⊢
  have HB := Lib.hid ((Below.refl w.heap.size w).alloc (Nat.le_refl _) (.cells #[.int .i64 kind, .string name, .string field, .string sign, .slice va nv vc, .slice wa nw wc, .int .i64 within, .int .i64 number, .slice aa na ac] 30))
  have HX := Lib.hid (XB.new w [.int .i64 kind, .string name, .string field, .string sign, .slice va nv vc, .slice wa nw wc, .int .i64 within, .int .i64 number, .slice aa na ac] 30)
  have CI := Lib.hid (CI0.out _ (HT.out.alloc (.cells #[.int .i64 kind, .string name, .string field, .string sign, .slice va nv vc, .slice wa nw wc, .int .i64 within, .int .i64 number, .slice aa na ac] 30)) (p10x_below hp HB.out))
  have x0 := HX.out.2 0 _ rfl
  have x1 := HX.out.2 1 _ rfl
  have x2 := HX.out.2 2 _ rfl
  have x3 := HX.out.2 3 _ rfl
  have x4 := HX.out.2 4 _ rfl
  have x5 := HX.out.2 5 _ rfl
  have x6 := HX.out.2 6 _ rfl
  have x7 := HX.out.2 7 _ rfl
  have x8 := HX.out.2 8 _ rfl
  have xl := HX.out.1
  have hz1 : ¬ (9223372036854775807 < 1 + t.size) := by omega
  have hz2 : ¬ (9223372036854775807 < 1 + t.size + 1) := by omega
  clear HX CI0 HT hp htx
  by_cases h4 : kind = 4
  · have f4 : (kind == 4) = true := by simpa using h4
    have f3 : (kind == 3) = false := by simp; omega
    have HF := Lib.hid (HR.out.trans (if_pos (Or.inl h4)))
    clear HR h4
    go_enter Tryz.func90, Tryz.ntmps90
    go_wp2_with fail
    ((with_reducible refine CI.out.mono ?_); rintro e w1 ⟨rfl, hb⟩)
    have HB1 := Lib.hid (HB.out.trans (hb.mono HB.out.size))
    clear hb x0 x1 x2 x3 x4 x5 x6 x7 x8 xl
    go_wp2_with fail
    go_ret
    exact ⟨ret_strX HF.out.symm, HB1.out⟩
  · have f4 : (kind == 4) = false := by simpa using h4
    by_cases h3 : kind = 3
    · have f3 : (kind == 3) = true := by simpa using h3
      by_cases hk : k = 4
      · have fk : (k != 4) = false := by simpa using hk
        have HF := Lib.hid (HR.out.trans (if_neg (by rintro (h | h); exact h4 h; exact h.2 hk)))
        clear HR h4 h3 hk
        go_enter Tryz.func90, Tryz.ntmps90
        go_wp2_with fail
        ((with_reducible refine CI.out.mono ?_); rintro e w1 ⟨rfl, hb⟩)
        have HB1 := Lib.hid (HB.out.trans (hb.mono HB.out.size))
        clear hb x0 x1 x2 x3 x4 x5 x6 x7 x8 xl
        go_wp2_with fail
        go_ret
        exact ⟨ret_strX HF.out.symm, HB1.out⟩
      · have fk : (k != 4) = true := by simpa using hk
        have HF := Lib.hid (HR.out.trans (if_pos (Or.inr ⟨h3, hk⟩)))
        clear HR h4 h3 hk
        go_enter Tryz.func90, Tryz.ntmps90
        go_wp2_with fail
        ((with_reducible refine CI.out.mono ?_); rintro e w1 ⟨rfl, hb⟩)
        have HB1 := Lib.hid (HB.out.trans (hb.mono HB.out.size))
        clear hb x0 x1 x2 x3 x4 x5 x6 x7 x8 xl
        go_wp2_with fail
        go_ret
        exact ⟨ret_strX HF.out.symm, HB1.out⟩
    · have f3 : (kind == 3) = false := by simpa using h3
      have HF := Lib.hid (HR.out.trans (if_neg (by rintro (h | h); exact h4 h; exact h3 h.1)))
      clear HR h4 h3
      go_enter Tryz.func90, Tryz.ntmps90
      go_wp2_with fail
      ((with_reducible refine CI.out.mono ?_); rintro e w1 ⟨rfl, hb⟩)
      have HB1 := Lib.hid (HB.out.trans (hb.mono HB.out.size))
      clear hb x0 x1 x2 x3 x4 x5 x6 x7 x8 xl
      go_wp2_with fail
      go_ret
      exact ⟨ret_strX HF.out.symm, HB1.out⟩

set_option maxHeartbeats 16000000 in
set_option maxRecDepth 100000 in
theorem wr5_any (d : Nat) (IH : WrIH 44 d) (c : Cn) (w : World) (hc : TAt (d + 1) w c) (hr : TxO (d + 1) c) (hsz : szN (d + 1) c ≤ 1000) (hk : c.nd.kind = 5) (hp : P10x w) :
    Calls Tryz.prog 44 #[c.agg] w (TxtO w (txT (d + 1) c)) := by
  obtain ⟨hok, ⟨ha1, ha2, ha3⟩, hV, hW, hA, hC⟩ := hc
  obtain ⟨hn, hro⟩ := hr
  have hl : 0 < c.args.length := hn.a1 hk
  have hm := List.getElem_mem hl
  have HR := Lib.hid (show txT (d + 1) c = ⟨#[110, 111, 116, 32]⟩ ++ inX 5 d c.args[0] from by
    have e : c.args.getD 0 default = c.args[0] := by rw [List.getD_eq_getElem?_getD, List.getElem?_eq_getElem hl]; rfl
    show (if c.nd.kind = 5 then _ else _) = _
    rw [if_pos hk, e]
    rfl)
  obtain ⟨p, off, haa, hca⟩ := CA.of hA hl
  have hsx : szN d c.args[0] ≤ 1000 := by have := szx_mem (d := d) hm; omega
  have hin := inX_size 5 hro _ hm
  have his : (inX 5 d c.args[0]).size ≤ 1000000 := by
    have : 613 * szN d c.args[0] ≤ 613 * 1000 := Nat.mul_le_mul_left _ hsx
    omega
  have CI0 := Lib.hid (fun w (hT : TAt d w c.args[0]) h => inner_any d IH c.args[0] 5 w hT (hro _ hm) hsx h)
  have HTx := Lib.hid (hC _ hm)
  generalize txT (d + 1) c = R at *
  generalize inX 5 d c.args[0] = s at *
  have hlx := hl
  generalize c.args[0] = x at *
  unfold Cn.agg at *
  unfold Cn.cells at hca
  clear hok ha1 ha2 ha3 hV hW hA hC hn hro hm hin hsx hsz IH
  obtain ⟨n, args⟩ := c
  obtain ⟨kind, name, field, sign, va, vc, vals, wa, wc, whs, within, number, aa, ac⟩ := n
  obtain ⟨n, xargs⟩ := x
  obtain ⟨xkind, xname, xfield, xsign, xva, xvc, xvals, xwa, xwc, xwhs, xwithin, xnumber, xaa, xac⟩ := n
  simp only [Cn.nd, Cn.args] at *
  subst hk
  subst haa
  obtain ⟨nv, hnv⟩ : ∃ z, vals.length = z := ⟨_, rfl⟩
  obtain ⟨nw, hnw⟩ : ∃ z, whs.length = z := ⟨_, rfl⟩
  obtain ⟨na, hna⟩ : ∃ z, args.length = z := ⟨_, rfl⟩
  obtain ⟨xnv, hxnv⟩ : ∃ z, xvals.length = z := ⟨_, rfl⟩
  obtain ⟨xnw, hxnw⟩ : ∃ z, xwhs.length = z := ⟨_, rfl⟩
  obtain ⟨xna, hxna⟩ : ∃ z, xargs.length = z := ⟨_, rfl⟩
  rw [hxnv, hxnw, hxna] at CI0 hca
  rw [hna] at hl
  have hl0 : decide (0 < na) = true := decide_eq_true hl
  rw [hnv, hnw, hna]
  clear hnv hnw hna hxnv hxnw hxna hlx
  have HCA := Lib.hid hca
  clear hca
  have HB := Lib.hid ((Below.refl w.heap.size w).alloc (Nat.le_refl _) (.cells #[.int .i64 5, .string name, .string field, .string sign, .slice va nv vc, .slice wa nw wc, .int .i64 within, .int .i64 number, .slice (some ⟨p, off, none⟩) na ac] 30))
  have HX := Lib.hid (XB.new w [.int .i64 5, .string name, .string field, .string sign, .slice va nv vc, .slice wa nw wc, .int .i64 within, .int .i64 number, .slice (some ⟨p, off, none⟩) na ac] 30)
  have HP := Lib.hid (p10x_below hp HB.out)
  simp only [List.toArray] at HX
  clear hp
  go_enter Tryz.func44, Tryz.ntmps44
  go_upto_region 7 with (fail)
  generalize w.alloc (.cells #[.int .i64 5, .string name, .string field, .string sign, .slice va nv vc, .slice wa nw wc, .int .i64 within, .int .i64 number, .slice (some ⟨p, off, none⟩) na ac] 30) = wb at *
  obtain ⟨q0, hq0⟩ : ∃ z, w.heap.size = z := ⟨_, rfl⟩
  rw [hq0] at HX ⊢
  have HQ0 := Lib.hid hq0
  clear hq0
  have HCA := Lib.hid (HCA.out.bl HB.out)
  have HTx := Lib.hid (HTx.out.below HB.out)
  have CV := Lib.hid (fun w' (h : Below wb.heap.size wb w') => CI0.out w' (HTx.out.below h) (p10x_below HP.out h))
  have K0 := Lib.hid (fun w' (hb : Below wb.heap.size wb w') => (show (w'.cell? ⟨q0, 0, none⟩ = some (.int .i64 5) ∧ w'.cell? ⟨q0, 8, none⟩ = some (.slice (some ⟨p, off, none⟩) na ac) ∧ w'.cell? ⟨p, off, none⟩ = some (.int .i64 xkind) ∧ w'.cell? ⟨p, off + 1, none⟩ = some (.string xname) ∧ w'.cell? ⟨p, off + 2, none⟩ = some (.string xfield) ∧ w'.cell? ⟨p, off + 3, none⟩ = some (.string xsign) ∧ w'.cell? ⟨p, off + 4, none⟩ = some (.slice xva xnv xvc) ∧ w'.cell? ⟨p, off + 5, none⟩ = some (.slice xwa xnw xwc) ∧ w'.cell? ⟨p, off + 6, none⟩ = some (.int .i64 xwithin) ∧ w'.cell? ⟨p, off + 7, none⟩ = some (.int .i64 xnumber) ∧ w'.cell? ⟨p, off + 8, none⟩ = some (.slice xaa xna xac)) ∧ Below wb.heap.size wb w' from ⟨⟨(HX.out.below hb).2 0 _ rfl, (HX.out.below hb).2 8 _ rfl, (HCA.out.bl hb).c 0 _ rfl, (HCA.out.bl hb).c 1 _ rfl, (HCA.out.bl hb).c 2 _ rfl, (HCA.out.bl hb).c 3 _ rfl, (HCA.out.bl hb).c 4 _ rfl, (HCA.out.bl hb).c 5 _ rfl, (HCA.out.bl hb).c 6 _ rfl, (HCA.out.bl hb).c 7 _ rfl, (HCA.out.bl hb).c 8 _ rfl⟩, hb⟩))
  have hz1 : ¬ (9223372036854775807 < 4 + s.size) := by omega
  clear HX HCA HTx CI0 HP
  go_region_held3 (fun w' => (w'.cell? ⟨q0, 0, none⟩ = some (.int .i64 5) ∧ w'.cell? ⟨q0, 8, none⟩ = some (.slice (some ⟨p, off, none⟩) na ac) ∧ w'.cell? ⟨p, off, none⟩ = some (.int .i64 xkind) ∧ w'.cell? ⟨p, off + 1, none⟩ = some (.string xname) ∧ w'.cell? ⟨p, off + 2, none⟩ = some (.string xfield) ∧ w'.cell? ⟨p, off + 3, none⟩ = some (.string xsign) ∧ w'.cell? ⟨p, off + 4, none⟩ = some (.slice xva xnv xvc) ∧ w'.cell? ⟨p, off + 5, none⟩ = some (.slice xwa xnw xwc) ∧ w'.cell? ⟨p, off + 6, none⟩ = some (.int .i64 xwithin) ∧ w'.cell? ⟨p, off + 7, none⟩ = some (.int .i64 xnumber) ∧ w'.cell? ⟨p, off + 8, none⟩ = some (.slice xaa xna xac)) ∧ Below wb.heap.size wb w')
    (first | assumption | (exact K0.out _ (Below.refl _ _).drew) | (refine K0.out _ (Below.trans (And.right (by assumption)) (hb.mono ?_)); exact (And.right (by assumption) : Below _ _ _).size))
    (first | (go_at_call 90; (with_reducible refine (CV.out _ (And.right (by assumption))).mono ?_); rintro e w' ⟨rfl, hb⟩))
  all_goals
    have hE : Below wb.heap.size wb _ := And.right (by assumption)
    have HE := Lib.hid (HB.out.trans (hE.mono HB.out.size))
    clear K0
    go_wp2_with fail
    go_ret
    exact ⟨ret_strX HR.out.symm, by have h := HE.out; rw [← HQ0.out] at *; exact h⟩

set_option maxHeartbeats 16000000 in
set_option maxRecDepth 100000 in
theorem wr3_any (d : Nat) (IH : WrIH 44 d) (c : Cn) (w : World) (hc : TAt (d + 1) w c) (hr : TxO (d + 1) c) (hsz : szN (d + 1) c ≤ 1000) (hk : c.nd.kind = 3) (hp : P10x w) :
    Calls Tryz.prog 44 #[c.agg] w (TxtO w (txT (d + 1) c)) := by
  obtain ⟨i0, hi, hz0, hz1, hz2⟩ := info_parts infoStrX
  obtain ⟨hok, ⟨ha1, ha2, ha3'⟩, hV, hW, hA, hC⟩ := hc
  have ha3 : c.args.length ≤ 19 := ha3'
  obtain ⟨hn, hro⟩ := hr
  have HR := Lib.hid (show txT (d + 1) c = jn ⟨#[32, 97, 110, 100, 32]⟩ (c.args.map (inX 3 d)) from by
    unfold txT
    rw [if_neg (by omega), if_pos hk]
    rfl)
  have HJS := Lib.hid (jnX_size (c := c) 3 ⟨#[32, 97, 110, 100, 32]⟩ (by decide) hro hsz)
  have HSX := Lib.hid (fun x hx => (show szN d x ≤ 1000 by have := szx_mem (d := d) (c := c) (x := x) hx; omega))
  have HIS := Lib.hid (inX_size (c := c) 3 hro)
  have HO := Lib.hid hro
  have HI := Lib.hid IH
  have HA := Lib.hid hA
  have HC := Lib.hid hC
  generalize txT (d + 1) c = R at *
  clear hok ha1 ha2 ha3' hV hW hA hC hn hro hsz IH
  unfold Cn.agg
  obtain ⟨n, args⟩ := c
  obtain ⟨kind, name, field, sign, va, vc, vals, wa, wc, whs, within, number, aa, ac⟩ := n
  simp only [Cn.nd, Cn.args] at *
  subst hk
  obtain ⟨nv, hnv⟩ : ∃ z, vals.length = z := ⟨_, rfl⟩
  obtain ⟨nw, hnw⟩ : ∃ z, whs.length = z := ⟨_, rfl⟩
  obtain ⟨na, hna⟩ : ∃ z, args.length = z := ⟨_, rfl⟩
  have HNA := Lib.hid hna
  rw [hna] at ha3
  rw [hnv, hnw, hna]
  clear hnv hnw hna
  have HB := Lib.hid ((Below.refl w.heap.size w).alloc (Nat.le_refl _) (.cells #[.int .i64 3, .string name, .string field, .string sign, .slice va nv vc, .slice wa nw wc, .int .i64 within, .int .i64 number, .slice aa na ac] 30))
  have HX := Lib.hid (XB.new w [.int .i64 3, .string name, .string field, .string sign, .slice va nv vc, .slice wa nw wc, .int .i64 within, .int .i64 number, .slice aa na ac] 30)
  have HP := Lib.hid (p10x_below hp HB.out)
  simp only [List.toArray] at HX
  clear hp
  go_enter Tryz.func44, Tryz.ntmps44
  go_upto_region 1 with (fail)
  generalize w.alloc (.cells #[.int .i64 3, .string name, .string field, .string sign, .slice va nv vc, .slice wa nw wc, .int .i64 within, .int .i64 number, .slice aa na ac] 30) = wb at *
  obtain ⟨q0, hq0⟩ : ∃ z, w.heap.size = z := ⟨_, rfl⟩
  rw [hq0] at HX ⊢
  have HQ0 := Lib.hid hq0
  clear hq0
  have HA := Lib.hid (HA.out.below HB.out)
  have HC := Lib.hid (fun x hx => (HC.out x hx).below HB.out)
  have T0 := Lib.hid (TxR.nil wb)
  have x0 := HX.out.2 0 _ rfl
  have x8 := HX.out.2 8 _ rfl
  have xl := HX.out.1
  go_wp2_with fail
  clear x0 x8 xl
  go_loopw [3, 31] (fun v i wr => ∃ k : Nat, k ≤ na ∧ i = .int .i64 k ∧ TxR wb wb.heap.size v ((args.take k).map (inX 3 d)) wr) (fun _ i _ => na - (intOf i).toNat)
  case atStart => exact ⟨0, Nat.zero_le _, rfl, T0.out⟩
  case round =>
    obtain ⟨k, hk, rfl, hT⟩ := hrel
    have HT := Lib.hid hT
    clear hT T0
    by_cases hlt : k < na
    · --@wr3a
      have hkl : k < args.length := by have := HNA.out; omega
      have hm := List.getElem_mem hkl
      obtain ⟨pw, offw, rfl, hpw, c0, c1, c2, c3, c4, c5, c6, c7, c8⟩ := (HA.out.below HT.out.bl).at9c hkl
      have HTx := Lib.hid ((HC.out args[k] hm).below HT.out.bl)
      have HTK := Lib.hid (show (args.take (k + 1)).map (inX 3 d) = (args.take k).map (inX 3 d) ++ [inX 3 d args[k]] by rw [List.take_succ_eq_append_getElem hkl, List.map_append]; rfl)
      have hlen : ((args.take k).map (inX 3 d)).length = k := by rw [List.length_map, List.length_take]; omega
      have CI0 := Lib.hid (fun w (hT : TAt d w args[k]) h => inner_any d HI.out args[k] 3 w hT (HO.out _ hm) (HSX.out _ hm) h)
      generalize inX 3 d args[k] = s at *
      generalize args[k] = x at *
      unfold Cn.agg at *
      obtain ⟨n, xargs⟩ := x
      obtain ⟨xkind, xname, xfield, xsign, xva, xvc, xvals, xwa, xwc, xwhs, xwithin, xnumber, xaa, xac⟩ := n
      simp only [Cn.nd, Cn.args] at *
      obtain ⟨l, hl⟩ : ∃ z, (args.take k).map (inX 3 d) = z := ⟨_, rfl⟩
      rw [hl] at HT HTK hlen
      obtain ⟨xnv, hxnv⟩ : ∃ z, xvals.length = z := ⟨_, rfl⟩
      obtain ⟨xnw, hxnw⟩ : ∃ z, xwhs.length = z := ⟨_, rfl⟩
      obtain ⟨xna, hxna⟩ : ∃ z, xargs.length = z := ⟨_, rfl⟩
      rw [hxnv] at c4 CI0
      rw [hxnw] at c5 CI0
      rw [hxna] at c8 CI0
      clear hxnv hxnw hxna hl hm
      have HTa := Lib.hid (HT.out.alloc (.cells #[.int .i64 xkind, .string xname, .string xfield, .string xsign, .slice xva xnv xvc, .slice xwa xnw xwc, .int .i64 xwithin, .int .i64 xnumber, .slice xaa xna xac] 30))
      have HXw := Lib.hid (XB.new wr [.int .i64 xkind, .string xname, .string xfield, .string xsign, .slice xva xnv xvc, .slice xwa xnw xwc, .int .i64 xwithin, .int .i64 xnumber, .slice xaa xna xac] 30)
      simp only [List.toArray] at HXw
      have CV := Lib.hid (CI0.out _ (HTx.out.alloc (.cells #[.int .i64 xkind, .string xname, .string xfield, .string xsign, .slice xva xnv xvc, .slice xwa xnw xwc, .int .i64 xwithin, .int .i64 xnumber, .slice xaa xna xac] 30)) (p10x_below HP.out HTa.out.bl))
      have HXq := Lib.hid (HX.out.below HTa.out.bl)
      have y0 := HXw.out.2 0 _ rfl
      have y1 := HXw.out.2 1 _ rfl
      have y2 := HXw.out.2 2 _ rfl
      have y3 := HXw.out.2 3 _ rfl
      have y4 := HXw.out.2 4 _ rfl
      have y5 := HXw.out.2 5 _ rfl
      have y6 := HXw.out.2 6 _ rfl
      have y7 := HXw.out.2 7 _ rfl
      have y8 := HXw.out.2 8 _ rfl
      have yl := HXw.out.1
      have x0 := HXq.out.2 0 _ rfl
      have xl := HXq.out.1
      clear HT CI0 HTx
      clear HXw HXq
      go_wp2_with fail
      ((with_reducible refine CV.out.mono ?_); rintro e w3 ⟨rfl, hb⟩)
      have HT3 := Lib.hid (HTa.out.below hb)
      clear CV HTa hb c0 c1 c2 c3 c4 c5 c6 c7 c8 y0 y1 y2 y3 y4 y5 y6 y7 y8 yl x0 xl hpw
      have own5 := HT3.out.own
      have hsz := HT3.out.hs
      go_wp2_with (at_builtin; refine wpList_append_own _ rfl _ _ 44 rfl wb.heap.size 9 i0 _ 1 16 Tryz.underlying44 hi hz0 hz1 hz2 rfl (by decide) _ _ _ rfl (own5.alloc _) ⟨w3.heap.size, 0, none⟩ 1 1 [.string s] rfl rfl ?c1 ?c2 ?c3 ?c4 ?c5 ?_)
      case c1 => exact cells_new w3 #[.string s] 9
      case c2 => simp [Value.oneCell']
      case c3 => unfold maxLen; omega
      case c4 => omega
      case c5 => simp; omega
      intro v2 w6 own6 hgrow6 hne6
      have HT6 := Lib.hid ((HT3.out.alloc (.cells #[.string s] 9)).app (by rw [hlen]; exact own6) hgrow6)
      rw [← HTK.out] at HT6
      clear own6 hgrow6 hne6 own5 HT3
      go_wp2_with fail
      go_roundw
      case rel => exact ⟨k + 1, by omega, by go_num, HT6.out⟩
      case measure => simp [intOf]; omega
      --@end
    · --@wr3b
      obtain rfl : k = na := by omega
      rw [List.take_of_length_le (by have := HNA.out; omega)] at HT
      have hll : (args.map (inX 3 d)).length = k := by rw [List.length_map]; exact HNA.out
      have hjs := HJS.out
      have CJ := Lib.hid (join_own _ u3 (args.map (inX 3 d)) ⟨#[32, 97, 110, 100, 32]⟩ wr HT.out.own (by omega) (by omega))
      rw [← HR.out] at CJ
      have hshape : ∃ a c, u3 = .slice a k c := by
        obtain ⟨-, ⟨e, h0⟩ | ⟨g, cap, cur, e, -⟩⟩ := HT.out.own
        · exact ⟨none, 0, by rw [e]; congr 1; omega⟩
        · exact ⟨_, _, by rw [e, hll]⟩
      obtain ⟨a4, c4, hu4⟩ := hshape
      have HBr := Lib.hid (HB.out.trans (HT.out.bl.mono HB.out.size))
      have x0 := (HX.out.below HT.out.bl).2 0 _ rfl
      have xl := (HX.out.below HT.out.bl).1
      subst hu4
      clear HX HP HT HB HJS HSX HIS HO HI HA HC HNA hll hjs HR
      go_wp2_with fail
      ((with_reducible refine CJ.out.mono ?_); rintro e w1 ⟨rfl, hb⟩)
      have HB1 := Lib.hid (HBr.out.trans (hb.mono HBr.out.size))
      clear hb
      go_wp2_with fail
      go_ret
      exact ⟨rfl, by have h := HB1.out; rw [← HQ0.out] at *; exact h⟩
      --@end

set_option maxHeartbeats 16000000 in
set_option maxRecDepth 100000 in
theorem wr4_any (d : Nat) (IH : WrIH 44 d) (c : Cn) (w : World) (hc : TAt (d + 1) w c) (hr : TxO (d + 1) c) (hsz : szN (d + 1) c ≤ 1000) (hk : c.nd.kind = 4) (hp : P10x w) :
    Calls Tryz.prog 44 #[c.agg] w (TxtO w (txT (d + 1) c)) := by
  obtain ⟨i0, hi, hz0, hz1, hz2⟩ := info_parts infoStrX
  obtain ⟨hok, ⟨ha1, ha2, ha3'⟩, hV, hW, hA, hC⟩ := hc
  have ha3 : c.args.length ≤ 19 := ha3'
  obtain ⟨hn, hro⟩ := hr
  have HR := Lib.hid (show txT (d + 1) c = jn ⟨#[32, 111, 114, 32]⟩ (c.args.map (inX 4 d)) from by
    unfold txT
    rw [if_neg (by omega), if_neg (by omega), if_pos hk]
    rfl)
  have HJS := Lib.hid (jnX_size (c := c) 4 ⟨#[32, 111, 114, 32]⟩ (by decide) hro hsz)
  have HSX := Lib.hid (fun x hx => (show szN d x ≤ 1000 by have := szx_mem (d := d) (c := c) (x := x) hx; omega))
  have HIS := Lib.hid (inX_size (c := c) 4 hro)
  have HO := Lib.hid hro
  have HI := Lib.hid IH
  have HA := Lib.hid hA
  have HC := Lib.hid hC
  generalize txT (d + 1) c = R at *
  clear hok ha1 ha2 ha3' hV hW hA hC hn hro hsz IH
  unfold Cn.agg
  obtain ⟨n, args⟩ := c
  obtain ⟨kind, name, field, sign, va, vc, vals, wa, wc, whs, within, number, aa, ac⟩ := n
  simp only [Cn.nd, Cn.args] at *
  subst hk
  obtain ⟨nv, hnv⟩ : ∃ z, vals.length = z := ⟨_, rfl⟩
  obtain ⟨nw, hnw⟩ : ∃ z, whs.length = z := ⟨_, rfl⟩
  obtain ⟨na, hna⟩ : ∃ z, args.length = z := ⟨_, rfl⟩
  have HNA := Lib.hid hna
  rw [hna] at ha3
  rw [hnv, hnw, hna]
  clear hnv hnw hna
  have HB := Lib.hid ((Below.refl w.heap.size w).alloc (Nat.le_refl _) (.cells #[.int .i64 4, .string name, .string field, .string sign, .slice va nv vc, .slice wa nw wc, .int .i64 within, .int .i64 number, .slice aa na ac] 30))
  have HX := Lib.hid (XB.new w [.int .i64 4, .string name, .string field, .string sign, .slice va nv vc, .slice wa nw wc, .int .i64 within, .int .i64 number, .slice aa na ac] 30)
  have HP := Lib.hid (p10x_below hp HB.out)
  simp only [List.toArray] at HX
  clear hp
  go_enter Tryz.func44, Tryz.ntmps44
  go_upto_region 1 with (fail)
  generalize w.alloc (.cells #[.int .i64 4, .string name, .string field, .string sign, .slice va nv vc, .slice wa nw wc, .int .i64 within, .int .i64 number, .slice aa na ac] 30) = wb at *
  obtain ⟨q0, hq0⟩ : ∃ z, w.heap.size = z := ⟨_, rfl⟩
  rw [hq0] at HX ⊢
  have HQ0 := Lib.hid hq0
  clear hq0
  have HA := Lib.hid (HA.out.below HB.out)
  have HC := Lib.hid (fun x hx => (HC.out x hx).below HB.out)
  have T0 := Lib.hid (TxR.nil wb)
  have x0 := HX.out.2 0 _ rfl
  have x8 := HX.out.2 8 _ rfl
  have xl := HX.out.1
  go_wp2_with fail
  clear x0 x8 xl
  go_loopw [3, 31] (fun v i wr => ∃ k : Nat, k ≤ na ∧ i = .int .i64 k ∧ TxR wb wb.heap.size v ((args.take k).map (inX 4 d)) wr) (fun _ i _ => na - (intOf i).toNat)
  case atStart => exact ⟨0, Nat.zero_le _, rfl, T0.out⟩
  case round =>
    obtain ⟨k, hk, rfl, hT⟩ := hrel
    have HT := Lib.hid hT
    clear hT T0
    by_cases hlt : k < na
    · --@wr4a
      have hkl : k < args.length := by have := HNA.out; omega
      have hm := List.getElem_mem hkl
      obtain ⟨pw, offw, rfl, hpw, c0, c1, c2, c3, c4, c5, c6, c7, c8⟩ := (HA.out.below HT.out.bl).at9c hkl
      have HTx := Lib.hid ((HC.out args[k] hm).below HT.out.bl)
      have HTK := Lib.hid (show (args.take (k + 1)).map (inX 4 d) = (args.take k).map (inX 4 d) ++ [inX 4 d args[k]] by rw [List.take_succ_eq_append_getElem hkl, List.map_append]; rfl)
      have hlen : ((args.take k).map (inX 4 d)).length = k := by rw [List.length_map, List.length_take]; omega
      have CI0 := Lib.hid (fun w (hT : TAt d w args[k]) h => inner_any d HI.out args[k] 4 w hT (HO.out _ hm) (HSX.out _ hm) h)
      generalize inX 4 d args[k] = s at *
      generalize args[k] = x at *
      unfold Cn.agg at *
      obtain ⟨n, xargs⟩ := x
      obtain ⟨xkind, xname, xfield, xsign, xva, xvc, xvals, xwa, xwc, xwhs, xwithin, xnumber, xaa, xac⟩ := n
      simp only [Cn.nd, Cn.args] at *
      obtain ⟨l, hl⟩ : ∃ z, (args.take k).map (inX 4 d) = z := ⟨_, rfl⟩
      rw [hl] at HT HTK hlen
      obtain ⟨xnv, hxnv⟩ : ∃ z, xvals.length = z := ⟨_, rfl⟩
      obtain ⟨xnw, hxnw⟩ : ∃ z, xwhs.length = z := ⟨_, rfl⟩
      obtain ⟨xna, hxna⟩ : ∃ z, xargs.length = z := ⟨_, rfl⟩
      rw [hxnv] at c4 CI0
      rw [hxnw] at c5 CI0
      rw [hxna] at c8 CI0
      clear hxnv hxnw hxna hl hm
      have HTa := Lib.hid (HT.out.alloc (.cells #[.int .i64 xkind, .string xname, .string xfield, .string xsign, .slice xva xnv xvc, .slice xwa xnw xwc, .int .i64 xwithin, .int .i64 xnumber, .slice xaa xna xac] 30))
      have HXw := Lib.hid (XB.new wr [.int .i64 xkind, .string xname, .string xfield, .string xsign, .slice xva xnv xvc, .slice xwa xnw xwc, .int .i64 xwithin, .int .i64 xnumber, .slice xaa xna xac] 30)
      simp only [List.toArray] at HXw
      have CV := Lib.hid (CI0.out _ (HTx.out.alloc (.cells #[.int .i64 xkind, .string xname, .string xfield, .string xsign, .slice xva xnv xvc, .slice xwa xnw xwc, .int .i64 xwithin, .int .i64 xnumber, .slice xaa xna xac] 30)) (p10x_below HP.out HTa.out.bl))
      have HXq := Lib.hid (HX.out.below HTa.out.bl)
      have y0 := HXw.out.2 0 _ rfl
      have y1 := HXw.out.2 1 _ rfl
      have y2 := HXw.out.2 2 _ rfl
      have y3 := HXw.out.2 3 _ rfl
      have y4 := HXw.out.2 4 _ rfl
      have y5 := HXw.out.2 5 _ rfl
      have y6 := HXw.out.2 6 _ rfl
      have y7 := HXw.out.2 7 _ rfl
      have y8 := HXw.out.2 8 _ rfl
      have yl := HXw.out.1
      have x0 := HXq.out.2 0 _ rfl
      have xl := HXq.out.1
      clear HT CI0 HTx
      clear HXw HXq
      go_wp2_with fail
      ((with_reducible refine CV.out.mono ?_); rintro e w3 ⟨rfl, hb⟩)
      have HT3 := Lib.hid (HTa.out.below hb)
      clear CV HTa hb c0 c1 c2 c3 c4 c5 c6 c7 c8 y0 y1 y2 y3 y4 y5 y6 y7 y8 yl x0 xl hpw
      have own5 := HT3.out.own
      have hsz := HT3.out.hs
      go_wp2_with (at_builtin; refine wpList_append_own _ rfl _ _ 44 rfl wb.heap.size 9 i0 _ 1 16 Tryz.underlying44 hi hz0 hz1 hz2 rfl (by decide) _ _ _ rfl (own5.alloc _) ⟨w3.heap.size, 0, none⟩ 1 1 [.string s] rfl rfl ?c1 ?c2 ?c3 ?c4 ?c5 ?_)
      case c1 => exact cells_new w3 #[.string s] 9
      case c2 => simp [Value.oneCell']
      case c3 => unfold maxLen; omega
      case c4 => omega
      case c5 => simp; omega
      intro v2 w6 own6 hgrow6 hne6
      have HT6 := Lib.hid ((HT3.out.alloc (.cells #[.string s] 9)).app (by rw [hlen]; exact own6) hgrow6)
      rw [← HTK.out] at HT6
      clear own6 hgrow6 hne6 own5 HT3
      go_wp2_with fail
      go_roundw
      case rel => exact ⟨k + 1, by omega, by go_num, HT6.out⟩
      case measure => simp [intOf]; omega
      --@end
    · --@wr4b
      obtain rfl : k = na := by omega
      rw [List.take_of_length_le (by have := HNA.out; omega)] at HT
      have hll : (args.map (inX 4 d)).length = k := by rw [List.length_map]; exact HNA.out
      have hjs := HJS.out
      have CJ := Lib.hid (join_own _ u3 (args.map (inX 4 d)) ⟨#[32, 111, 114, 32]⟩ wr HT.out.own (by omega) (by omega))
      rw [← HR.out] at CJ
      have hshape : ∃ a c, u3 = .slice a k c := by
        obtain ⟨-, ⟨e, h0⟩ | ⟨g, cap, cur, e, -⟩⟩ := HT.out.own
        · exact ⟨none, 0, by rw [e]; congr 1; omega⟩
        · exact ⟨_, _, by rw [e, hll]⟩
      obtain ⟨a4, c4, hu4⟩ := hshape
      have HBr := Lib.hid (HB.out.trans (HT.out.bl.mono HB.out.size))
      have x0 := (HX.out.below HT.out.bl).2 0 _ rfl
      have xl := (HX.out.below HT.out.bl).1
      subst hu4
      clear HX HP HT HB HJS HSX HIS HO HI HA HC HNA hll hjs HR
      go_wp2_with fail
      ((with_reducible refine CJ.out.mono ?_); rintro e w1 ⟨rfl, hb⟩)
      have HB1 := Lib.hid (HBr.out.trans (hb.mono HBr.out.size))
      clear hb
      go_wp2_with fail
      go_ret
      exact ⟨rfl, by have h := HB1.out; rw [← HQ0.out] at *; exact h⟩
      --@end

theorem write_any : ∀ (d : Nat), WrIH 44 d
  | 0, _, _, h, _, _, _ => h.elim
  | d + 1, c, w, hT, hO, hsz, hp => by
    have IH := write_any d
    have hn := hO.1
    have h1 := hn.k1
    have h2 := hn.k2
    by_cases h3 : c.nd.kind = 3
    · exact wr3_any d IH c w hT hO hsz h3 hp
    by_cases h4 : c.nd.kind = 4
    · exact wr4_any d IH c w hT hO hsz h4 hp
    by_cases h5 : c.nd.kind = 5
    · exact wr5_any d IH c w hT hO hsz h5 hp
    have e : txT (d + 1) c = ndB c.nd := by unfold txT; rw [if_neg h5, if_neg h3, if_neg h4]
    rw [e]
    obtain ⟨hok, -, hV, hW, -, -⟩ := hT
    unfold Cn.agg
    by_cases k1 : c.nd.kind = 1
    · exact wr1_any c.nd c.args.length w hok hV hW hn k1 hp
    by_cases k2 : c.nd.kind = 2
    · exact wr2_any c.nd c.args.length w hok hV hW hn k2 hp
    by_cases k6 : c.nd.kind = 6
    · exact wr6_any c.nd c.args.length w hok hV hW hn k6 hp
    by_cases k7 : c.nd.kind = 7
    · exact wr7_any c.nd c.args.length w hok hV hW hn k7 hp
    by_cases k8 : c.nd.kind = 8
    · exact wr8_any c.nd c.args.length w hok hV hW hn k8 hp
    by_cases k9 : c.nd.kind = 9
    · exact wr9_any c.nd c.args.length w hok hV hW hn k9 hp
    by_cases k10 : c.nd.kind = 10
    · exact wr10_any c.nd c.args.length w hok hV hW hn k10 hp
    exact wr11_any c.nd c.args.length w hok hV hW hn (by omega) h2 hp
end Go.Proofs.YtfdpfkdfglombaaGreatDoor
