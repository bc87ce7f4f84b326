/- measure.Attribute (printed by gen_attr.py). -/
import Derived.Test.YtgdagknjnidmiaaGreatDoorM3
import Derived.Test.YtgdagknjnidmiaaGreatDoorCredit
import Derived.Test.YtgdagknjnidmiaaGreatDoorKeysOf
import Derived.Test.YtgdagknjnidmiaaGreatDoorCheckSent
import Derived.Test.YtgdagknjnidmiaaGreatDoorCheckGains
set_option linter.unusedVariables false
namespace Go.Proofs.YtgdagknjnidmiaaGreatDoor
open Go.RowKit Go.Maps Deal

theorem crL_at (c : Crd) (k : Nat) (h : k < (crL c).length) (h' : k < (ordK c.keys).length) : (crL c)[k] = c.at_ ((ordK c.keys)[k]) := by
  show (List.map c.at_ (ordK c.keys))[k]'h = _
  exact List.getElem_map c.at_
/-- a list of credits lies in a slice -/
def CrIs (w : World) (v : Value) (L : List Cdt) : Prop := ∃ a c, v = .slice a L.length c ∧ RAt w a 3 Cdt.cells L
theorem CrIs.nil (w : World) : CrIs w (.slice none 0 0) [] := ⟨none, 0, rfl, RAt.nil _ _ _ _⟩
theorem infoCr : (Tryz.prog.info? 58).map (fun i => (i.zero, i.size, i.bytes)) = some (some (.agg #[.string ⟨#[]⟩, .int .i64 0, .int .i64 0]), 3, 32) := by kernel_rfl
theorem below_cr {w w1 w2 : World} {B : Nat → Prop} (h : Below w.heap.size w w1) (k : Chg w1 w2 B) (hB : ∀ i, B i → w.heap.size ≤ i) : Below w.heap.size w w2 := h.trans (k.below h.size hB)

set_option maxRecDepth 100000 in
set_option maxHeartbeats 16000000 in
theorem Attribute_any (a : Option Addr) (l : List Snt) (nl cl : Nat) (ag : Option Addr) (gs : List Gn) (ng cg : Nat) (how span : Int) (w : World) (hn : l.length = nl) (hn1 : nl ≤ 1000) (hI : RAt w a 4 Snt.cells l) (hok : ∀ x ∈ l, x.ok)
    (hm : gs.length = ng) (hm1 : ng ≤ 1000) (hJ : RAt w ag 4 Gn.cells gs) (hokg : ∀ g ∈ gs, g.ok) :
    Calls Tryz.prog 21 #[.slice a nl cl, .slice ag ng cg, .int .i64 how, .int .i64 span] w fun e w' => ∃ v, e = .returned (.tuple #[v, .int .i64 (atN l gs how span), .int .i64 (atE l gs how span)]) ∧ CrIs w' v (atL l gs how span) ∧ Below w.heap.size w w' := by
  obtain ⟨i0, hi, hz0, hz1, hz2⟩ := info_parts infoCr
  have hmm := @run_makeMap Tryz.prog
  have HI := Lib.hid hI
  have HJ := Lib.hid hJ
  have HN := Lib.hid hn
  have HM := Lib.hid hm
  have HOK := Lib.hid hok
  have HOG := Lib.hid hokg
  have HE : Hid (atE l gs how span = if sentE l ≠ 0 then sentE l else if gainE gs ≠ 0 then gainE gs else if how < 1 ∨ 6 < how then 4 else if span < 1 ∨ 4321440 < span then 1 else 0) := Lib.hid rfl
  have HAN : Hid (atN l gs how span = if atE l gs how span = 0 then noneN l span gs gs.length else 0) := Lib.hid rfl
  have HAL : Hid (atL l gs how span = if atE l gs how span = 0 then crL (gainsO l how span gs gs.length) else []) := Lib.hid rfl
  have C1 := Lib.hid (CheckSent_any a l nl cl w hn hn1 hI hok)
  have C2 := Lib.hid (fun w' (hb : Below w.heap.size w w') => CheckGains_any ag gs ng cg w' hm hm1 (hJ.below hb) hokg)
  obtain ⟨E, hE⟩ : ∃ z, atE l gs how span = z := ⟨_, rfl⟩
  obtain ⟨NN, hNN⟩ : ∃ z, atN l gs how span = z := ⟨_, rfl⟩
  obtain ⟨LL, hLL⟩ : ∃ z, atL l gs how span = z := ⟨_, rfl⟩
  rw [hE] at HE HAN HAL
  rw [hNN] at HAN
  rw [hLL] at HAL
  rw [hE, hNN, hLL]
  obtain ⟨SE, hSE⟩ : ∃ z, sentE l = z := ⟨_, rfl⟩
  obtain ⟨GE, hGE⟩ : ∃ z, gainE gs = z := ⟨_, rfl⟩
  have HSE := Lib.hid hSE
  have HGE := Lib.hid hGE
  rw [hSE] at HE C1
  rw [hGE] at HE C2
  clear hn hI hok hm hJ hokg hE hNN hLL hSE hGE
  have FAIL : Hid (E ≠ 0 → NN = 0 ∧ LL = []) := Lib.hid (fun h => ⟨HAN.out.trans (if_neg h), HAL.out.trans (if_neg h)⟩)
  go_enter Tryz.func21, Tryz.ntmps21
  go_wp2_with fail
  with_reducible refine C1.out.mono ?_
  rintro e w1 ⟨rfl, b1⟩
  have HB1 := Lib.hid b1
  clear b1 C1
  by_cases h1 : SE = 0
  · subst h1
    go_wp2_with fail
    with_reducible refine (C2.out w1 HB1.out).mono ?_
    rintro e w2 ⟨rfl, b2⟩
    have HB2 := Lib.hid (HB1.out.trans (b2.mono HB1.out.size))
    clear b2 C2 HB1
    by_cases h2 : GE = 0
    · subst h2
      obtain ⟨WE, hWE⟩ : ∃ z, (if how < 1 ∨ 6 < how then (4 : Int) else if span < 1 ∨ 4321440 < span then 1 else 0) = z := ⟨_, rfl⟩
      have CWY := Lib.hid (checkWays_any how span w2)
      have HE2 : Hid (E = WE) := Lib.hid (by have h := HE.out; rw [if_neg (by simp), if_neg (by simp), hWE] at h; exact h)
      rw [hWE] at CWY
      have HWE := Lib.hid hWE
      clear HE hWE
      go_wp2_with fail
      with_reducible refine CWY.out.mono ?_
      rintro e w3 ⟨rfl, rfl⟩
      clear CWY
      by_cases h3 : WE = 0
      · subst h3
        obtain rfl : E = 0 := HE2.out
        obtain ⟨k1, k2, k3, k4⟩ : 1 ≤ how ∧ how ≤ 6 ∧ 1 ≤ span ∧ span ≤ 4321440 := by
          have h := HWE.out
          by_cases c1 : how < 1 ∨ 6 < how
          · rw [if_pos c1] at h; cases h
          · rw [if_neg c1] at h
            by_cases c2 : span < 1 ∨ 4321440 < span
            · rw [if_pos c2] at h; cases h
            · omega
        have HNN : Hid (NN = noneN l span gs ng) := Lib.hid (by have h := HAN.out; rw [if_pos rfl, HM.out] at h; exact h)
        have HLL : Hid (LL = crL (gainsO l how span gs ng)) := Lib.hid (by have h := HAL.out; rw [if_pos rfl, HM.out] at h; exact h)
        have HGB := Lib.hid (gainE_bd HGE.out)
        have HMOM := Lib.hid (sentE_mom HSE.out)
        have HCB := Lib.hid (fun k hk => gainsO_bd l how span gs k1 k2 (fun g hg => (HGB.out g hg).2.2) k hk)
        have HNB := Lib.hid (fun k hk => noneN_bd l span gs (fun g hg => (HGB.out g hg).2) k hk)
        have HAP : Hid (0 < l.length → ∀ p off, a = some ⟨p, off, none⟩ → p < w.heap.size) := Lib.hid (fun hl p off e => by
          obtain ⟨p', o', e2, h3, -⟩ := HI.out 0 hl
          rw [e] at e2
          injection e2 with e2
          injection e2 with e2
          omega)
        clear HE2 HWE FAIL HAN HAL
        have HC0 := Lib.hid (CrO.made w2 (lo := w.heap.size) HB2.out.size)
        have HB3 := Lib.hid (HB2.out.alloc HB2.out.size (.map #[] 0))
        obtain ⟨b, hb⟩ : ∃ z, w2.heap.size = z := ⟨_, rfl⟩
        rw [hb] at HC0
        have hwb : w.heap.size ≤ b := by rw [← hb]; exact HB2.out.size
        go_upto_region 11 with (fail)
        generalize w2.alloc (.map #[] 0) = w3 at *
        try rw [hb]
        clear hb HB2
        go_wp2_with fail
        go_loopw [15, 17, 18, 41] (fun v15 _ _ i wr => ∃ (k n1 : Nat) (blk : ByteArray → Nat), k ≤ ng ∧ i = .int .i64 k ∧ v15 = .int .i64 (noneN l span gs k) ∧ n1 ≤ 12 * k ∧ CrO wr b n1 w.heap.size (gainsO l how span gs k) blk ∧ Below w.heap.size w wr) (fun _ _ _ i _ => ng - (intOf i).toNat)
        case atStart => exact ⟨0, 0, _, Nat.zero_le _, rfl, rfl, Nat.zero_le _, HC0.out, HB3.out⟩
        case round =>
          obtain ⟨k, n1, blk, hk, rfl, rfl, hn1', hC, hB⟩ := hrel
          have HC := Lib.hid hC
          have HB := Lib.hid hB
          clear HC0 HB3 hC hB
          by_cases hlt : k < ng
          · --@r1
            have hkg : k < gs.length := by have := HM.out; omega
            obtain ⟨p, off, hap, hp, c0, c1, c2, c3⟩ := (HJ.out.below HB.out).at4 hkg (v0 := .string gs[k].id) (v1 := .string gs[k].person) (v2 := .int .i64 gs[k].at_) (v3 := .int .i64 gs[k].cents) rfl
            subst hap
            obtain ⟨⟨m1, m2⟩, m3, m4⟩ := HGB.out gs[k] (List.getElem_mem hkg)
            have HGS := Lib.hid (gainsO_succ l how span gs k hkg)
            have HNS := Lib.hid (noneN_succ l span gs k hkg)
            obtain ⟨hnb1, hnb2⟩ := HNB.out k (by omega)
            have hcb := HCB.out k (by omega)
            generalize gs[k] = g at *
            obtain ⟨gid, gper, gat, gce⟩ := g
            simp only at m1 m2 m3 m4 c0 c1 c2 c3
            have HBx := Lib.hid (HB.out.alloc HB.out.size (.cells #[.string gid, .string gper, .int .i64 gat, .int .i64 gce] 102))
            have HCx := Lib.hid (HC.out.below ((Below.refl wr.heap.size wr).alloc (Nat.le_refl _) (.cells #[.string gid, .string gper, .int .i64 gat, .int .i64 gce] 102)))
            have HX := Lib.hid (XB.new wr [.string gid, .string gper, .int .i64 gat, .int .i64 gce] 102)
            simp only [List.toArray] at HX
            go_upto_region 15 with (fail)
            generalize wr.alloc (.cells #[.string gid, .string gper, .int .i64 gat, .int .i64 gce] 102) = wa at *
            generalize wr.heap.size = q17 at *
            clear c0 c1 c2 c3 HC HB
            have CPA := Lib.hid (path_new a l nl cl ⟨gid, gper, gat, gce⟩ span wa HN.out hn1 (HI.out.below HBx.out) HMOM.out m1 m2)
            obtain ⟨y0, y1, y2, y3⟩ := HX.out.at4
            have hyl := HX.out.1
            go_wp2_with fail
            with_reducible refine CPA.out.mono ?_
            rintro e wb ⟨v18, rfl, hP, bb, hNS⟩
            rw [pathL_N] at hP
            obtain ⟨q, hq⟩ : ∃ z, pathN (pathP ⟨gid, gper, gat, gce⟩ span) l = z := ⟨_, rfl⟩
            have HQE := Lib.hid hq
            rw [hq] at hP
            obtain ⟨aq, cq, hv, hQ⟩ := hP
            rw [List.length_map] at hv
            subst hv
            have HQ := Lib.hid (show natsAt wb aq q from hQ)
            have HNW := Lib.hid hNS
            have HBb := Lib.hid (HBx.out.trans (bb.mono HBx.out.size))
            have HCb := Lib.hid (HCx.out.below bb)
            have HXb := Lib.hid (HX.out.below bb)
            have HBLK := Lib.hid (show b < wa.heap.size ∧ ∀ s, s ∈ (gainsO l how span gs k).keys → blk s < wa.heap.size from ⟨HCx.out.map.lt, fun s hs => (HCx.out.box s hs).lt⟩)
            clear hQ hNS bb hq HX HBx HCx y0 y1 y2 y3 hyl CPA
            by_cases hql : 0 < q.length
            · have HG2 : Hid (gainsO l how span gs (k + 1) = crOs (gainsO l how span gs k) (partsL l gce.toNat q (wsN how span (agL l ⟨gid, gper, gat, gce⟩ q)) q.length)) := Lib.hid (HGS.out.trans (by unfold gainO; rw [HQE.out]))
              have HN2 : Hid (noneN l span gs (k + 1) = noneN l span gs k) := Lib.hid (HNS.out.trans (by rw [HQE.out, if_neg (by omega)]; exact Int.add_zero _))
              obtain ⟨nq, hnq⟩ : ∃ z, q.length = z := ⟨_, rfl⟩
              have HNQ := Lib.hid hnq
              have hq12 : q.length ≤ 12 := by rw [← HQE.out]; exact pathN_len _ _
              have hll : 0 < l.length := by
                obtain ⟨h, -⟩ := pathN_at (P := pathP ⟨gid, gper, gat, gce⟩ span) (l := l) (i := q[0]) (by rw [HQE.out]; exact List.getElem_mem hql)
                omega
              have CCR := Lib.hid (credit_any b n1 w.heap.size (gainsO l how span gs k) blk a l nl cl gid gper gat gce aq q q.length cq how span (12 * k) wb HCb.out hcb (by omega) (by omega) HN.out hn1 (HI.out.below HBb.out)
                (fun p off e h => by
                  have h5 := HAP.out hll p off e
                  rcases h with h | ⟨s, hs, h⟩
                  · omega
                  · have := HCb.out.lo_ s hs; omega) HOK.out HMOM.out rfl hql hq12 HQ.out
                (fun p off e h => by
                  subst e
                  have h5 := HNW.out p off q.length cq rfl
                  rcases h with h | ⟨s, hs, h⟩
                  · have := HBLK.out.1; omega
                  · have := HBLK.out.2 s hs; omega)
                (fun i hi => (pathN_at (P := pathP ⟨gid, gper, gat, gce⟩ span) (by rw [HQE.out]; exact hi)).1)
                (fun j hj => by
                  have h := ages_good l ⟨gid, gper, gat, gce⟩ span HSE.out j (by rw [HQE.out]; exact hj)
                  rwa [HQE.out] at h) k1 k2 k3 k4 m1 m2 m3 m4)
              rw [← HG2.out, hnq] at CCR
              rw [hnq] at hql hq12 ⊢
              have HLO := Lib.hid HCb.out.lo_
              clear HGS HNS HG2 hnq
              obtain ⟨y0, y1, y2, y3⟩ := HXb.out.at4
              have hyl := HXb.out.1
              go_wp2_with fail
              with_reducible refine CCR.out.mono ?_
              rintro e wc ⟨rfl, n2, blk2, hn2, hC2, hCh, -⟩
              have HC2 := Lib.hid hC2
              have HB2 := Lib.hid (below_cr HBb.out hCh (fun i hi => by
                rcases hi with h | ⟨s, hs, h⟩
                · omega
                · have := HLO.out s hs; omega))
              clear hC2 hCh CCR y0 y1 y2 y3 hyl
              go_wp2_with fail
              go_roundw
              case rel => exact ⟨k + 1, n2, blk2, by omega, by go_num, by rw [HN2.out], by omega, HC2.out, HB2.out⟩
              case measure => simp [intOf]; omega
            · have hq0 : q.length = 0 := by omega
              have HG2 : Hid (gainsO l how span gs (k + 1) = gainsO l how span gs k) := Lib.hid (HGS.out.trans (gain_nil (by rw [HQE.out]; exact hq0)).1)
              have HN2 : Hid (noneN l span gs (k + 1) = noneN l span gs k + gce) := Lib.hid (HNS.out.trans (by rw [HQE.out, if_pos hq0]))
              obtain ⟨z, hz⟩ : ∃ z, noneN l span gs k = z := ⟨_, rfl⟩
              rw [hz] at HN2 hnb1 hnb2 ⊢
              rw [hq0]
              have hwz : IntKind.i64.wrap (z + gce) = z + gce := by rw [IntKind.wrap_i64]; omega
              obtain ⟨y0, y1, y2, y3⟩ := HXb.out.at4
              have hyl := HXb.out.1
              go_wp2_with fail
              go_roundw
              case rel => exact ⟨k + 1, n1, blk, by omega, by go_num, by rw [HN2.out], by omega, by rw [HG2.out]; exact HCb.out, HBb.out⟩
              case measure => simp [intOf]; omega
            --@end
          · obtain rfl : ng = k := by omega
            obtain ⟨c, hc⟩ : ∃ z, gainsO l how span gs ng = z := ⟨_, rfl⟩
            obtain ⟨z, hz⟩ : ∃ z, noneN l span gs ng = z := ⟨_, rfl⟩
            rw [hc] at HC HLL
            rw [hz] at HNN ⊢
            have hbc := HCB.out ng (by have := HM.out; omega)
            rw [hc] at hbc
            have HCBC := Lib.hid hbc
            have HSK : Hid (∀ s, s ∈ c.keys → s.size ≤ 100) := Lib.hid (by rw [← hc]; exact gainsO_keys l how span gs (fun s => s.size ≤ 100) (fun x hx => (HOK.out x hx).2.2.1) ng (by have := HM.out; omega))
            have hnd : c.keys.Nodup := by rw [← hc]; exact (CrJ.gains l how span gs k1 k2 ng (by have := HM.out; omega)).no
            have hkl : c.keys.length ≤ 12000 := by rw [← hc]; have := gainsO_len l how span gs ng (by have := HM.out; omega); omega
            clear hc hz hbc HGB HMOM HCB HNB HI HJ HAP
            have CK := Lib.hid (keys_any (some b) wr)
            have CSK := Lib.hid (sorted_keys wr (.pointer none) b n1 c.keys (ptF c.keys blk) HC.out.map hnd (by omega))
            have HBk := Lib.hid (HB.out.alloc HB.out.size (.cells #[.map (some b)] 106))
            have HCk := Lib.hid (HC.out.below ((Below.refl wr.heap.size wr).alloc (Nat.le_refl _) (.cells #[.map (some b)] 106)))
            have hsk : (wr.alloc (.cells #[.map (some b)] 106)).heap.size = wr.heap.size + 1 := World.size_alloc _ _
            clear HC HB
            go_wp2_with fail
            with_reducible refine CK.out.mono ?_
            rintro e wk ⟨rfl, rfl⟩
            go_wp2_with fail
            with_reducible refine CSK.out.mono ?_
            rintro e ws ⟨vs, rfl, hOS, bs⟩
            obtain ⟨m, hm9⟩ : ∃ z, c.keys.length = z := ⟨_, rfl⟩
            have HMK := Lib.hid hm9
            rw [hm9] at hOS hkl
            obtain ⟨as_, cs, hvs, -, -⟩ := row_shape hOS
            subst hvs
            have bs' : Below (wr.alloc (.cells #[.map (some b)] 106)).heap.size (wr.alloc (.cells #[.map (some b)] 106)) ws := by rw [hsk]; exact bs
            have HC5 := Lib.hid (HCk.out.below bs')
            have HB5 := Lib.hid (HBk.out.trans (bs'.mono HBk.out.size))
            have HO5 := Lib.hid hOS
            clear HCk HBk bs bs' hOS CK CSK hm9
            obtain ⟨B3, hB3⟩ : ∃ z, ws.heap.size = z := ⟨_, rfl⟩
            have HBLK : Hid (b < B3 ∧ (∀ s, s ∈ c.keys → blk s < B3) ∧ ∀ g, (Value.slice as_ m cs).ownBlock = some g → g < B3) := Lib.hid (by rw [← hB3]; exact ⟨HC5.out.map.lt, fun s hs => (HC5.out.box s hs).lt, fun g hg => (HO5.out.lt g hg).2⟩)
            have hwB3 : w.heap.size ≤ B3 := by rw [← hB3]; exact HB5.out.size
            have hsB : B3 ≤ ws.heap.size := by omega
            clear hB3
            go_wp2_with fail
            go_loopw [19, 21, 68] (fun v19 _ i wx => ∃ (k : Nat) (v : Value), k ≤ m ∧ i = .int .i64 k ∧ v = v19 ∧ wx.ownsRow B3 58 3 v k (((crL c).take k).flatMap Cdt.cells) ∧ CrO wx b n1 w.heap.size c blk ∧ wx.ownsRow (wr.heap.size + 1) 9 1 (.slice as_ m cs) m ((ordK c.keys).map Value.string) ∧ Below w.heap.size w wx ∧ B3 ≤ wx.heap.size) (fun _ _ i _ => m - (intOf i).toNat)
            case atStart => exact ⟨0, _, Nat.zero_le _, rfl, rfl, World.ownsRow_nil _ _ _ _, HC5.out, HO5.out, HB5.out, hsB⟩
            case round =>
              obtain ⟨k, v, hk9, rfl, rfl, hO, hC, hS, hB, hsz⟩ := hrel
              have HO := Lib.hid hO
              have HC := Lib.hid hC
              have HS := Lib.hid hS
              have HB := Lib.hid hB
              clear HC5 HO5 HB5 hO hC hS hB
              by_cases hlt9 : k < m
              · --@r2
                have hkk : k < (ordK c.keys).length := by rw [(ordK_perm c.keys).length_eq, HMK.out]; exact hlt9
                obtain ⟨gs9, caps, hvs, hbs, hls⟩ := HS.out.form (by omega)
                injection hvs with e1 e2 e3
                subst e1 e3
                have cS := HS.out.cellAt k (by omega)
                rw [List.getElem?_map, List.getElem?_eq_getElem hkk] at cS
                have hkc : k < (crL c).length := by unfold crL; rw [List.length_map]; exact hkk
                have HTK := Lib.hid (show ((crL c).take (k + 1)).flatMap Cdt.cells = ((crL c).take k).flatMap Cdt.cells ++ (c.at_ (ordK c.keys)[k]).cells by
                  rw [List.take_succ_eq_append_getElem hkc, List.flatMap_append, crL_at c k hkc hkk]
                  simp)
                have hsx : (ordK c.keys)[k] ∈ c.keys := (ordK_perm c.keys).mem_iff.1 (List.getElem_mem hkk)
                generalize (ordK c.keys)[k] = s at *
                have hsm : s.size ≤ maxLen := by have := HSK.out s hsx; unfold maxLen; omega
                have hlk := HC.out.map.look Tryz.underlying106 (zero_ptr _) s hsm
                rw [show ptF c.keys blk s = _ from CrO.yes (hasS_mem.2 hsx)] at hlk
                have B0 := HC.out.box s hsx
                have b0' := B0.cell 0 _ rfl
                have b1' := B0.cell 1 _ rfl
                have b2' := B0.cell 2 _ rfl
                have hbl := B0.lt
                clear B0
                have BA := (Below.refl wr.heap.size wr).alloc (Nat.le_refl _) (.cells #[.string s, .int .i64 (c.ga s : Int), .int .i64 (c.ce s : Int)] 58)
                have HOa := Lib.hid (row_below HO.out BA)
                have HCa := Lib.hid (HC.out.below BA)
                have HSa := Lib.hid (row_below HS.out BA)
                have HBa := Lib.hid (HB.out.alloc HB.out.size (.cells #[.string s, .int .i64 (c.ga s : Int), .int .i64 (c.ce s : Int)] 58))
                have HNW : Hid (∀ j u, ([.string s, .int .i64 (c.ga s : Int), .int .i64 (c.ce s : Int)] : List Value)[j]? = some u → (wr.alloc (.cells #[.string s, .int .i64 (c.ga s : Int), .int .i64 (c.ce s : Int)] 58)).cell? ((⟨wr.heap.size, 0, none⟩ : Addr).add j) = some u) := Lib.hid (fun j u h => World.news_of_block (heap_alloc_new wr (.cells #[.string s, .int .i64 (c.ga s : Int), .int .i64 (c.ce s : Int)] 58)) j u h)
                have HSb : Hid (B3 ≤ (wr.alloc (.cells #[.string s, .int .i64 (c.ga s : Int), .int .i64 (c.ce s : Int)] 58)).heap.size) := Lib.hid (by rw [World.size_alloc]; omega)
                have HOB : Hid (∀ g, v.ownBlock = some g → B3 ≤ g) := Lib.hid (fun g hg => (HO.out.lt g hg).1)
                have hmy : k + 1 ≤ maxLen := by unfold maxLen; omega
                have hmb : (k + 1) * 32 ≤ 140737488355328 := by omega
                clear HO HC HS HB BA
                go_wp2_with (first | (at_builtin; refine wpList_append_lies _ rfl _ _ 53 rfl B3 58 i0 _ 3 32 Tryz.underlying53 hi hz0 hz1 hz2 rfl (by decide) v k _ rfl HOa.out ⟨wr.heap.size, 0, none⟩ 1 1 [.string s, .int .i64 (c.ga s : Int), .int .i64 (c.ce s : Int)] rfl rfl HNW.out ?ca2 Nat.one_pos hmy hmb HSb.out _ rfl ?_))
                case ca2 => simp [Value.oneCell']
                intro gq cq9 w8 own8 grow8 at8 lt8
                have HO9 : Hid (w8.ownsRow B3 58 3 (.slice (some ⟨gq, 0, none⟩) (k + 1) cq9) (k + 1) (((crL c).take (k + 1)).flatMap Cdt.cells)) := Lib.hid (by rw [HTK.out]; exact own8)
                have HC9 := Lib.hid (HCa.out.grown grow8 (fun e => by have := HOB.out b e; have := HBLK.out.1; omega) (fun t ht e => by have := HOB.out _ e; have := HBLK.out.2.1 t ht; omega))
                have HS9 := Lib.hid (row_grown HSa.out grow8 (fun g hg e => by have := HOB.out g e; have := HBLK.out.2.2 g hg; omega))
                have HB9 := Lib.hid (HBa.out.grown grow8 HBa.out.size (fun g hg => by have := HOB.out g hg; omega))
                have hs9 : B3 ≤ w8.heap.size := Nat.le_trans HSb.out grow8.size
                clear own8 grow8 at8 lt8 HOa HCa HSa HBa HNW HSb HOB hlk b0' b1' b2' hbl cS
                go_wp2_with fail
                go_roundw
                case rel => exact ⟨k + 1, _, by omega, by go_num, rfl, HO9.out, HC9.out, HS9.out, HB9.out, hs9⟩
                case measure => simp [intOf]; omega
                --@end
              · obtain rfl : m = k := by omega
                have HLN : Hid ((crL c).length = m) := Lib.hid (by unfold crL; rw [List.length_map, (ordK_perm c.keys).length_eq, HMK.out])
                rw [show (crL c).take m = crL c by rw [← HLN.out, List.take_length], ← HLN.out] at HO
                obtain ⟨av, cv, hv, hr, -, -⟩ := RAt.of_own HO.out (fun x _ => x.len)
                have HR := Lib.hid (show CrIs wr v (crL c) from ⟨av, cv, hv, hr⟩)
                rw [HLN.out] at hv
                subst hv
                clear hr HO HC HS
                go_wp2_with fail
                refine bodyPost_ret (v := .tuple #[.slice av m cv, .int .i64 z, .int .i64 0]) (by simp [results, Tryz.results21, go_sem]) rfl ?_
                rw [HNN.out]
                exact ⟨_, rfl, by rw [HLL.out]; exact HR.out, HB.out⟩
      · have e1 : (WE == 0) = false := by simpa using h3
        have e2 : (WE != 0) = true := by simpa using h3
        obtain rfl : E = WE := HE2.out
        obtain ⟨rfl, rfl⟩ := FAIL.out h3
        go_wp2_with fail
        refine bodyPost_ret (v := .tuple #[.slice none 0 0, .int .i64 0, .int .i64 E]) (by simp [results, Tryz.results21, go_sem]) rfl ?_
        exact ⟨_, rfl, CrIs.nil _, HB2.out⟩
    · have e1 : (GE == 0) = false := by simpa using h2
      have e2 : (GE != 0) = true := by simpa using h2
      obtain rfl : E = GE := by have h := HE.out; rw [if_neg (by simp), if_pos h2] at h; exact h
      obtain ⟨rfl, rfl⟩ := FAIL.out h2
      go_wp2_with fail
      refine bodyPost_ret (v := .tuple #[.slice none 0 0, .int .i64 0, .int .i64 E]) (by simp [results, Tryz.results21, go_sem]) rfl ?_
      exact ⟨_, rfl, CrIs.nil _, HB2.out⟩
  · have e1 : (SE == 0) = false := by simpa using h1
    have e2 : (SE != 0) = true := by simpa using h1
    obtain rfl : E = SE := by have h := HE.out; rw [if_pos h1] at h; exact h
    obtain ⟨rfl, rfl⟩ := FAIL.out h1
    go_wp2_with fail
    refine bodyPost_ret (v := .tuple #[.slice none 0 0, .int .i64 0, .int .i64 E]) (by simp [results, Tryz.results21, go_sem]) rfl ?_
    exact ⟨_, rfl, CrIs.nil _, HB1.out⟩
end Go.Proofs.YtgdagknjnidmiaaGreatDoor
