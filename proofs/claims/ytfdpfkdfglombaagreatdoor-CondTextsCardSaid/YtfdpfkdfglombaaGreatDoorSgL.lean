/- segment.walk over checkNode, segment.large, segment.CheckCond. -/
import Derived.Test.YtfdpfkdfglombaaGreatDoorSgK
import Derived.Test.YtfdpfkdfglombaaGreatDoorOBox
set_option linter.unusedVariables false
namespace Go.Proofs.YtfdpfkdfglombaaGreatDoor
open Go.RowKit

theorem checkNode_any (x : Nd) (na : Nat) (w : World) (hok : x.ok) (hna : na ≤ 1000) (hV : RAt w x.va 3 Vl.cells x.vals) (hW : RAt w x.wa 5 Wh.cells x.whs) (hT : Tbs w) :
    Calls Tryz.prog 77 #[.agg #[.int .i64 x.kind, .string x.name, .string x.field, .string x.sign, .slice x.va x.vals.length x.vc, .slice x.wa x.whs.length x.wc, .int .i64 x.within, .int .i64 x.number, .slice x.aa na x.ac]] w (IntO w (ndE x na)) := by
  by_cases h : x.kind < 1 ∨ 14 < x.kind
  · have e : ndE x na = 4 := by unfold ndE; rw [if_pos h]
    rw [e]
    exact checkNode_no _ _ _ _ _ _ _ _ _ w h
  · exact checkNode_yes x na w (by omega) (by omega) hok hna hV hW hT
theorem RAt.at9c {w : World} {a : Option Addr} {l : List Cn} (h : RAt w a 9 Cn.cells l) {j : Nat} (hj : j < l.length) :
    ∃ p off, a = some ⟨p, off, none⟩ ∧ p < w.heap.size ∧ w.cell? ⟨p, off + j * 9, none⟩ = some (.int .i64 l[j].nd.kind) ∧ w.cell? ⟨p, off + j * 9 + 1, none⟩ = some (.string l[j].nd.name) ∧ w.cell? ⟨p, off + j * 9 + 2, none⟩ = some (.string l[j].nd.field) ∧ w.cell? ⟨p, off + j * 9 + 3, none⟩ = some (.string l[j].nd.sign) ∧ w.cell? ⟨p, off + j * 9 + 4, none⟩ = some (.slice l[j].nd.va l[j].nd.vals.length l[j].nd.vc) ∧ w.cell? ⟨p, off + j * 9 + 5, none⟩ = some (.slice l[j].nd.wa l[j].nd.whs.length l[j].nd.wc) ∧ w.cell? ⟨p, off + j * 9 + 6, none⟩ = some (.int .i64 l[j].nd.within) ∧ w.cell? ⟨p, off + j * 9 + 7, none⟩ = some (.int .i64 l[j].nd.number) ∧ w.cell? ⟨p, off + j * 9 + 8, none⟩ = some (.slice l[j].nd.aa l[j].args.length l[j].nd.ac) := by
  obtain ⟨p, off, h1, h2, h3⟩ := h j hj
  exact ⟨p, off, h1, h2, h3 0 _ rfl, h3 1 _ rfl, h3 2 _ rfl, h3 3 _ rfl, h3 4 _ rfl, h3 5 _ rfl, h3 6 _ rfl, h3 7 _ rfl, h3 8 _ rfl⟩
/-- a condition as a value -/
def Cn.agg (c : Cn) : Value := .agg #[.int .i64 c.nd.kind, .string c.nd.name, .string c.nd.field, .string c.nd.sign, .slice c.nd.va c.nd.vals.length c.nd.vc, .slice c.nd.wa c.nd.whs.length c.nd.wc, .int .i64 c.nd.within, .int .i64 c.nd.number, .slice c.nd.aa c.args.length c.nd.ac]
set_option maxRecDepth 100000 in
set_option maxHeartbeats 4000000 in
theorem walk_any : ∀ (d : Nat) (c : Cn) (w : World), TAt d w c → Tbs w →
    Calls Tryz.prog 38 #[c.agg, .func (.func 77) #[] #[]] w (IntO w (trE d c))
  | 0, _, _, h, _ => h.elim
  | d + 1, c, w, ⟨hok, ⟨ha1, ha2, ha3'⟩, hV, hW, hA, hC⟩, hT => by
    have ha3 := wdM_le ha3'
    clear ha3'
    have HI := Lib.hid (fun c w => walk_any d c w)
    have HE := Lib.hid (show trE (d + 1) c = if ndE c.nd c.args.length ≠ 0 then ndE c.nd c.args.length else fstE (trE d) c.args from rfl)
    have C0 := Lib.hid (fun w h1 h2 h3 => checkNode_any c.nd c.args.length w hok ha3 h1 h2 h3)
    have HV := Lib.hid hV
    have HW := Lib.hid hW
    have HA := Lib.hid hA
    have HC := Lib.hid hC
    have HT := Lib.hid hT
    unfold Cn.agg
    clear hok hV hW hA hC hT ha1 ha2
    obtain ⟨R, hR⟩ : ∃ z, trE (d + 1) c = z := ⟨_, rfl⟩
    obtain ⟨e0, he0⟩ : ∃ z, ndE c.nd c.args.length = z := ⟨_, rfl⟩
    rw [hR, he0] at HE
    rw [he0] at C0
    rw [hR]
    clear hR he0
    obtain ⟨n, args⟩ := c
    obtain ⟨kind, name, field, sign, va, vc, vals, wa, wc, whs, within, number, aa, ac⟩ := n
    simp only [Cn.nd, Cn.args] at *
    obtain ⟨nv, hnv⟩ : ∃ z, vals.length = z := ⟨_, rfl⟩
    obtain ⟨nw, hnw⟩ : ∃ z, whs.length = z := ⟨_, rfl⟩
    obtain ⟨na, hna⟩ : ∃ z, args.length = z := ⟨_, rfl⟩
    rw [hnv, hnw, hna] at C0 ⊢
    rw [hna] at ha3
    have HNA := Lib.hid hna
    clear hnv hnw hna
    have HX := Lib.hid (XB.new w [.int .i64 kind, .string name, .string field, .string sign, .slice va nv vc, .slice wa nw wc, .int .i64 within, .int .i64 number, .slice aa na ac] 30)
    have HB := Lib.hid ((Below.refl w.heap.size w).alloc (Nat.le_refl _) (.cells #[.int .i64 kind, .string name, .string field, .string sign, .slice va nv vc, .slice wa nw wc, .int .i64 within, .int .i64 number, .slice aa na ac] 30))
    go_enter Tryz.func38, Tryz.ntmps38
    go_wp2_with fail
    ((with_reducible refine (C0.out _ (HV.out.below HB.out) (HW.out.below HB.out) (HT.out.below HB.out)).mono ?_); rintro e w1 ⟨rfl, hb⟩)
    have HX1 := Lib.hid (HX.out.below hb)
    have HB1 := Lib.hid (HB.out.trans (hb.mono HB.out.size))
    clear hb HX HB
    by_cases h0 : e0 = 0
    · subst h0
      have HE1 : Hid (R = fstE (trE d) args) := Lib.hid (HE.out.trans (if_neg fun h => h rfl))
      clear HE C0
      have x8 := HX1.out.2 8 _ rfl
      have xl := HX1.out.1
      go_wp2_with fail
      clear x8 xl
      go_loopw [18] (fun i wr => ∃ k : Nat, k ≤ na ∧ i = .int .i64 k ∧ Below w1.heap.size w1 wr ∧ Hid (fstE (trE d) args = fstE (trE d) (args.drop k))) (fun i _ => na - (intOf i).toNat)
      case atStart => exact ⟨0, Nat.zero_le _, rfl, Below.refl _ _, Lib.hid rfl⟩
      case round =>
        obtain ⟨k, hk, rfl, hBr, HF⟩ := hrel
        have HBr := Lib.hid (HB1.out.trans (hBr.mono HB1.out.size))
        have HBr0 := Lib.hid hBr
        clear hBr
        by_cases hlt : k < na
        · have hkl : k < args.length := by have := HNA.out; omega
          obtain ⟨p, off, rfl, hp, c0, c1, c2, c3, c4, c5, c6, c7, c8⟩ := (HA.out.below HBr.out).at9c hkl
          have HD := Lib.hid (fstE_drop (trE d) args k hkl)
          have HTx := Lib.hid ((HC.out args[k] (List.getElem_mem hkl)).below HBr.out)
          have HTr := Lib.hid (HT.out.below HBr.out)
          have C1 := Lib.hid (HI.out args[k])
          obtain ⟨r, hr⟩ : ∃ z, trE d args[k] = z := ⟨_, rfl⟩
          rw [hr] at HD C1
          clear hr
          generalize args[k] = x at *
          obtain ⟨xn, xargs⟩ := x
          obtain ⟨xkind, xname, xfield, xsign, xva, xvc, xvals, xwa, xwc, xwhs, xwithin, xnumber, xaa, xac⟩ := xn
          unfold Cn.agg at C1
          simp only [Cn.nd, Cn.args] at *
          have HTxa := Lib.hid (HTx.out.alloc (.cells #[.int .i64 xkind, .string xname, .string xfield, .string xsign, .slice xva xvals.length xvc, .slice xwa xwhs.length xwc, .int .i64 xwithin, .int .i64 xnumber, .slice xaa xargs.length xac] 30))
          have HTra := Lib.hid (HTr.out.alloc (.cells #[.int .i64 xkind, .string xname, .string xfield, .string xsign, .slice xva xvals.length xvc, .slice xwa xwhs.length xwc, .int .i64 xwithin, .int .i64 xnumber, .slice xaa xargs.length xac] 30))
          have HBa := Lib.hid (HBr.out.alloc HBr.out.size (.cells #[.int .i64 xkind, .string xname, .string xfield, .string xsign, .slice xva xvals.length xvc, .slice xwa xwhs.length xwc, .int .i64 xwithin, .int .i64 xnumber, .slice xaa xargs.length xac] 30))
          have HBa0 := Lib.hid (HBr0.out.alloc HBr0.out.size (.cells #[.int .i64 xkind, .string xname, .string xfield, .string xsign, .slice xva xvals.length xvc, .slice xwa xwhs.length xwc, .int .i64 xwithin, .int .i64 xnumber, .slice xaa xargs.length xac] 30))
          clear HTx HTr HBr HBr0
          obtain ⟨xnv, hxnv⟩ : ∃ z, xvals.length = z := ⟨_, rfl⟩
          obtain ⟨xnw, hxnw⟩ : ∃ z, xwhs.length = z := ⟨_, rfl⟩
          obtain ⟨xna, hxna⟩ : ∃ z, xargs.length = z := ⟨_, rfl⟩
          rw [hxnv] at c4 C1 HTxa HTra HBa HBa0
          rw [hxnw] at c5 C1 HTxa HTra HBa HBa0
          rw [hxna] at c8 C1 HTxa HTra HBa HBa0
          clear hxnv hxnw hxna
          go_wp2_with fail
          ((with_reducible refine (C1.out _ HTxa.out HTra.out).mono ?_); rintro e w5 ⟨rfl, hb5⟩)
          have HB5 := Lib.hid (HBa.out.trans (hb5.mono HBa.out.size))
          have HB50 := Lib.hid (HBa0.out.trans (hb5.mono HBa0.out.size))
          clear hb5 HTxa HTra HBa HBa0 c0 c1 c2 c3 c4 c5 c6 c7 c8 hp
          by_cases h3 : r = 0
          · subst h3
            go_wp2_with fail
            go_roundw
            case rel => exact ⟨k + 1, by omega, by go_num, HB50.out, Lib.hid (by rw [HF.out, HD.out]; rfl)⟩
            case measure => simp [intOf]; omega
          · have h4 : (r != 0) = true := by simpa using h3
            have H3 := Lib.hid h3
            clear h3
            go_wp2_with fail
            go_ret
            exact ⟨ret_int (by rw [HE1.out, HF.out, HD.out, if_neg H3.out]), HB5.out⟩
        · have HZ : Hid (fstE (trE d) args = 0) := Lib.hid (by rw [HF.out, List.drop_eq_nil_of_le (by have := HNA.out; omega)]; rfl)
          go_wp2_with fail
          go_ret
          exact ⟨ret_int (by rw [HE1.out, HZ.out]), HBr.out⟩
    · have h4 : (e0 != 0) = true := by simpa using h0
      have H3 := Lib.hid h0
      clear h0
      go_wp2_with fail
      go_ret
      exact ⟨ret_int (by rw [HE.out, if_pos H3.out]), HB1.out⟩
end Go.Proofs.YtfdpfkdfglombaaGreatDoor
