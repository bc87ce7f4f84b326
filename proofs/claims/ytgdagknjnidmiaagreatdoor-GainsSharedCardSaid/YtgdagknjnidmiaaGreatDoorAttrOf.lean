/- handref1.AttributeOf (printed by gen_attrof.py). -/
import Derived.Test.YtgdagknjnidmiaaGreatDoorM3
import Derived.Test.YtgdagknjnidmiaaGreatDoorAttr
import Derived.Test.YtgdagknjnidmiaaGreatDoorPathOf
import Derived.Test.YtgdagknjnidmiaaGreatDoorWeightsOf
import Derived.Test.YtgdagknjnidmiaaGreatDoorM2
import Derived.Test.YtgdagknjnidmiaaGreatDoorSentFault
import Derived.Test.YtgdagknjnidmiaaGreatDoorOrErr
import Derived.Test.YtgdagknjnidmiaaGreatDoorSortCr
import Derived.Test.YtgdagknjnidmiaaGreatDoorVRange
set_option linter.unusedVariables false
namespace Go.Proofs.YtgdagknjnidmiaaGreatDoor
open Go.RowKit Go.Maps Deal

theorem orE_two (a b : Int) : orE [a, b] = if a ≠ 0 then a else b := by
  show (if a = 0 then (if b = 0 then 0 else b) else a) = _
  by_cases h : a = 0
  · rw [if_pos h, if_neg (show ¬ a ≠ 0 from fun e => e h)]
    split <;> simp_all
  · rw [if_neg h, if_pos h]
/-- a block with cells is no map -/
theorem cell_no_map {w : World} {z : Value} {b n p o : Nat} {ks : List ByteArray} {g : ByteArray → Value} {v : Value} (h : VM w z b n ks g) (hc : w.cell? ⟨p, o, none⟩ = some v) : p ≠ b := by
  rintro rfl
  obtain ⟨D, ⟨es, clock, hb, -⟩, -⟩ := h
  simp [World.cell?, hb] at hc
theorem cell_no_seen {w : World} {b n p o : Nat} {ks : List ByteArray} {v : Value} (h : Seen w b n ks) (hc : w.cell? ⟨p, o, none⟩ = some v) : p ≠ b := by
  rintro rfl
  obtain ⟨D, ⟨es, clock, hb, -⟩, -⟩ := h
  simp [World.cell?, hb] at hc
theorem Seen.look {w : World} {b n : Nat} {ks : List ByteArray} (h : Seen w b n ks) (s : ByteArray) (hs : s.size ≤ maxLen) : (Instr.lookup 95 (.map (some b)) (.string s) false).run Tryz.prog w = .ok (.bool (hasS ks s)) w := by
  obtain ⟨D, hown, _, hat⟩ := h
  obtain ⟨v, ps, hrun, hv⟩ := hown.lookup key_str Tryz.underlying95 (zero_bool w) (zd := .lit (.bool false)) (zp := []) (plainElem_bool Tryz.underlying4 false) (WideMaps.keyOf_string_mk Tryz.underlying9 hs)
  obtain ⟨c, rfl, hc⟩ := plainElem_bool_inv Tryz.underlying4 hv
  have e := lit_bool_inj ((hat s).symm.trans (congrArg Prod.fst hc))
  rw [e]
  exact hrun
theorem wbad {how span : Int} {zs : List Int} (h1 : 1 ≤ how) (h2 : how ≤ 6) (h3 : 1 ≤ span) (h4 : span ≤ 4321440) (h5 : zs.length ≤ 12) (h6 : scanE span zs = 0) : wwE how span zs = 0 ∧ wwL how span zs = wgtL how span zs zs.length := by
  have e : wwE how span zs = 0 := by
    unfold wwE
    rw [if_neg (by omega), if_neg (by omega), if_neg (by omega)]
    exact h6
  refine ⟨e, ?_⟩
  unfold wwL
  rw [if_pos e]

set_option maxRecDepth 100000 in
set_option maxHeartbeats 16000000 in
theorem AttributeOf_any (a : Option Addr) (l : List Snt) (nl cl : Nat) (ag : Option Addr) (gs : List Gn) (ng cg : Nat) (how span : Int) (w : World) (hn : l.length = nl) (hn1 : nl ≤ 1000) (hcl : nl ≤ cl) (hcl' : cl ≤ maxLen) (hI : RAt w a 4 Snt.cells l) (hok : ∀ x ∈ l, x.okL)
    (hm : gs.length = ng) (hm1 : ng ≤ 1000) (hcg : ng ≤ cg) (hcg' : cg ≤ maxLen) (hJ : RAt w ag 4 Gn.cells gs) (hokg : ∀ g ∈ gs, g.ok) :
    Calls Tryz.prog 22 #[.slice a nl cl, .slice ag ng cg, .int .i64 how, .int .i64 span] w fun e w' => ∃ v, e = .returned (.tuple #[v, .int .i64 (atN l gs how span), .int .i64 (atE l gs how span)]) ∧ CrIs w' v (atL l gs how span) ∧ Below w.heap.size w w' := by
  obtain ⟨i0, hi, hz0, hz1, hz2⟩ := info_parts infoCr
  obtain ⟨j0, hj, hy0, hy1, hy2⟩ := info_parts infoP_int
  have hmm := @run_makeMap Tryz.prog
  have HI := Lib.hid hI
  have HJ := Lib.hid hJ
  have HN := Lib.hid hn
  have HM := Lib.hid hm
  have HOK := Lib.hid hok
  have HE : Hid (atE l gs how span = if sentE l ≠ 0 then sentE l else if gainE gs ≠ 0 then gainE gs else if how < 1 ∨ 6 < how then 4 else if span < 1 ∨ 4321440 < span then 1 else 0) := Lib.hid rfl
  have HAN : Hid (atN l gs how span = if atE l gs how span = 0 then noneN l span gs gs.length else 0) := Lib.hid rfl
  have HAL : Hid (atL l gs how span = if atE l gs how span = 0 then crL (gainsO l how span gs gs.length) else []) := Lib.hid rfl
  have C1 := Lib.hid (SentFault_any a l nl cl w hn hn1 hcl hcl' hI (fun x hx => (hok x hx).1))
  have C2 := Lib.hid (fun w' (hb : Below w.heap.size w w') => GainsFault_any ag gs ng cg w' hm hm1 hcg hcg' (hJ.below hb) hokg)
  obtain ⟨E, hE⟩ : ∃ z, atE l gs how span = z := ⟨_, rfl⟩
  obtain ⟨NN, hNN⟩ : ∃ z, atN l gs how span = z := ⟨_, rfl⟩
  obtain ⟨LL, hLL⟩ : ∃ z, atL l gs how span = z := ⟨_, rfl⟩
  rw [hE] at HE HAN HAL
  rw [hNN] at HAN
  rw [hLL] at HAL
  rw [hE, hNN, hLL]
  obtain ⟨SE, hSE⟩ : ∃ z, sentE l = z := ⟨_, rfl⟩
  obtain ⟨GE, hGE⟩ : ∃ z, gainE gs = z := ⟨_, rfl⟩
  have HSE := Lib.hid hSE
  have HGE := Lib.hid hGE
  rw [hSE] at HE C1
  rw [hGE] at HE C2
  have HOR := Lib.hid (fun (w' : World) => orErr_any w'.heap.size [SE, GE] 2 2 32 (w'.alloc (.cells #[.int .i64 SE, .int .i64 GE] 32)) rfl (by omega) (heap_alloc_new _ _))
  rw [orE_two] at HOR
  obtain ⟨W1, hW1⟩ : ∃ z, (if SE ≠ 0 then SE else GE) = z := ⟨_, rfl⟩
  have HW1 := Lib.hid hW1
  rw [hW1] at HOR
  clear hn hI hok hm hJ hokg hE hNN hLL hSE hGE hcl hcl' hcg hcg' hW1
  have FAIL : Hid (E ≠ 0 → NN = 0 ∧ LL = []) := Lib.hid (fun h => ⟨HAN.out.trans (if_neg h), HAL.out.trans (if_neg h)⟩)
  go_enter Tryz.func22, Tryz.ntmps22
  go_wp2_with fail
  with_reducible refine C1.out.mono ?_
  rintro e w1 ⟨rfl, b1⟩
  have HB1 := Lib.hid b1
  clear b1 C1
  go_wp2_with fail
  with_reducible refine (C2.out w1 HB1.out).mono ?_
  rintro e w2 ⟨rfl, b2⟩
  have HB2 := Lib.hid (HB1.out.trans (b2.mono HB1.out.size))
  have HB2a := Lib.hid (HB2.out.alloc HB2.out.size (.cells #[.int .i64 SE, .int .i64 GE] 32))
  clear b2 C2 HB1
  go_wp2_with fail
  with_reducible refine (HOR.out _).mono ?_
  rintro e w3 ⟨rfl, rfl⟩
  clear HOR HB2
  generalize w2.alloc (.cells #[.int .i64 SE, .int .i64 GE] 32) = w3 at *
  by_cases h1 : W1 = 0
  · subst h1
    have h1a : SE = 0 := by
      have h := HW1.out
      by_cases c : SE = 0
      · exact c
      · rw [if_pos c] at h; exact h
    subst h1a
    have h2a : GE = 0 := by have h := HW1.out; rw [if_neg (by simp)] at h; exact h
    subst h2a
    obtain ⟨WE, hWE⟩ : ∃ z, (if how < 1 ∨ 6 < how then (4 : Int) else if span < 1 ∨ 4321440 < span then 1 else 0) = z := ⟨_, rfl⟩
    have CWY := Lib.hid (WeightsOf_any how span none [] 0 0 w3 rfl (by omega) (fun j hj => by simp at hj))
    unfold WeightsOut at CWY
    rw [wways_nil, hWE] at CWY
    have HE2 : Hid (E = WE) := Lib.hid (by have h := HE.out; rw [if_neg (by simp), if_neg (by simp), hWE] at h; exact h)
    have HWE := Lib.hid hWE
    clear HE hWE HW1
    go_wp2_with fail
    with_reducible refine CWY.out.mono ?_
    rintro e w4 ⟨vw, rfl, -, b4⟩
    have HB4 := Lib.hid (HB2a.out.trans (b4.mono HB2a.out.size))
    clear CWY b4 HB2a
    by_cases h3 : WE = 0
    · subst h3
      obtain rfl : E = 0 := HE2.out
      obtain ⟨k1, k2, k3, k4⟩ : 1 ≤ how ∧ how ≤ 6 ∧ 1 ≤ span ∧ span ≤ 4321440 := by
        have h := HWE.out
        by_cases c1 : how < 1 ∨ 6 < how
        · rw [if_pos c1] at h; cases h
        · rw [if_neg c1] at h
          by_cases c2 : span < 1 ∨ 4321440 < span
          · rw [if_pos c2] at h; cases h
          · omega
      have HNN : Hid (NN = noneN l span gs ng) := Lib.hid (by have h := HAN.out; rw [if_pos rfl, HM.out] at h; exact h)
      have HLL : Hid (LL = crL (gainsO l how span gs ng)) := Lib.hid (by have h := HAL.out; rw [if_pos rfl, HM.out] at h; exact h)
      have HGB := Lib.hid (gainE_bd HGE.out)
      have HMOM := Lib.hid (sentE_mom HSE.out)
      have HCB := Lib.hid (fun k hk => gainsR_bd l how span gs k1 k2 (fun g hg => (HGB.out g hg).2.2) k hk)
      have HNB := Lib.hid (fun k hk => noneN_bd l span gs (fun g hg => (HGB.out g hg).2) k hk)
      clear HE2 HWE FAIL HAN HAL
      have HV0 : Hid (VM (w4.alloc (.map #[] 0)) ZC w4.heap.size 0 (gainsR l how span gs 0).keys (agF (gainsR l how span gs 0))) := Lib.hid (VM.made w4 ZC)
      have HB5 := Lib.hid (HB4.out.alloc HB4.out.size (.map #[] 0))
      obtain ⟨b, hb⟩ : ∃ z, w4.heap.size = z := ⟨_, rfl⟩
      rw [hb] at HV0
      have hwb : w.heap.size ≤ b := by rw [← hb]; exact HB4.out.size
      go_upto_region 8 with (fail)
      generalize w4.alloc (.map #[] 0) = w5 at *
      try rw [hb]
      clear hb HB4
      go_wp2_with fail
      go_loopw [15, 17, 18, 53] (fun v15 _ _ i wr => ∃ (k n1 : Nat), k ≤ ng ∧ i = .int .i64 k ∧ v15 = .int .i64 (noneN l span gs k) ∧ n1 ≤ 12 * k ∧ VM wr ZC b n1 (gainsR l how span gs k).keys (agF (gainsR l how span gs k)) ∧ Below w.heap.size w wr) (fun _ _ _ i _ => ng - (intOf i).toNat)
      case atStart => exact ⟨0, 0, Nat.zero_le _, rfl, rfl, Nat.zero_le _, HV0.out, HB5.out⟩
      case round =>
        obtain ⟨k, n1, hk, rfl, rfl, hn1', hV, hB⟩ := hrel
        have HV := Lib.hid hV
        have HB := Lib.hid hB
        clear HV0 HB5 hV hB
        by_cases hlt : k < ng
        · --@r1
          have hkg : k < gs.length := by have := HM.out; omega
          obtain ⟨p, off, hap, hp, c0, c1, c2, c3⟩ := (HJ.out.below HB.out).at4 hkg (v0 := .string gs[k].id) (v1 := .string gs[k].person) (v2 := .int .i64 gs[k].at_) (v3 := .int .i64 gs[k].cents) rfl
          subst hap
          obtain ⟨⟨m1, m2⟩, m3, m4⟩ := HGB.out gs[k] (List.getElem_mem hkg)
          have HGS := Lib.hid (gainsR_succ l how span gs k hkg)
          have HNS := Lib.hid (noneN_succ l span gs k hkg)
          obtain ⟨hnb1, hnb2⟩ := HNB.out k (by omega)
          have hcb := HCB.out k (by omega)
          generalize gs[k] = g at *
          obtain ⟨gid, gper, gat, gce⟩ := g
          simp only at m1 m2 m3 m4 c0 c1 c2 c3
          obtain ⟨C, hgC⟩ : ∃ C : Nat, gce = (C : Int) := ⟨gce.toNat, by omega⟩
          subst hgC
          have hC9 : C ≤ 1000000000000 := by omega
          have HBx := Lib.hid (HB.out.alloc HB.out.size (.cells #[.string gid, .string gper, .int .i64 gat, .int .i64 (C : Int)] 102))
          have HVx := Lib.hid (HV.out.alloc (.cells #[.string gid, .string gper, .int .i64 gat, .int .i64 (C : Int)] 102))
          have HX := Lib.hid (XB.new wr [.string gid, .string gper, .int .i64 gat, .int .i64 (C : Int)] 102)
          simp only [List.toArray] at HX
          go_upto_region 12 with (fail)
          generalize wr.alloc (.cells #[.string gid, .string gper, .int .i64 gat, .int .i64 (C : Int)] 102) = wa at *
          generalize wr.heap.size = q17 at *
          clear c0 c1 c2 c3 HV HB
          have CPA := Lib.hid (PathOf_any a l nl cl ⟨gid, gper, gat, (C : Int)⟩ span wa HN.out hn1 (HI.out.below HBx.out) HMOM.out m1 m2)
          unfold PathOut at CPA
          obtain ⟨y0, y1, y2, y3⟩ := HX.out.at4
          have hyl := HX.out.1
          go_wp2_with fail
          with_reducible refine CPA.out.mono ?_
          rintro e wb ⟨v18, rfl, hP, bb⟩
          rw [pathL_N] at hP
          obtain ⟨q, hq⟩ : ∃ z, pathN (pathP ⟨gid, gper, gat, (C : Int)⟩ span) l = z := ⟨_, rfl⟩
          have HQE := Lib.hid hq
          rw [hq] at hP
          obtain ⟨aq, cq, hv, hQ⟩ := hP
          rw [List.length_map] at hv
          subst hv
          have HQ := Lib.hid (show natsAt wb aq q from hQ)
          have HBb := Lib.hid (HBx.out.trans (bb.mono HBx.out.size))
          have HVb := Lib.hid (HVx.out.below bb)
          have HXb := Lib.hid (HX.out.below bb)
          clear hQ bb hq HX HBx HVx y0 y1 y2 y3 hyl CPA
          by_cases hql : 0 < q.length
          · obtain ⟨AG, hAG⟩ : ∃ z, agL l ⟨gid, gper, gat, (C : Int)⟩ q = z := ⟨_, rfl⟩
            obtain ⟨ws, hws⟩ : ∃ z, wsN how span AG = z := ⟨_, rfl⟩
            have hq12 : q.length ≤ 12 := by rw [← HQE.out]; exact pathN_len _ _
            have HQL := Lib.hid (fun i (hi : i ∈ q) => (pathN_at (P := pathP ⟨gid, gper, gat, (C : Int)⟩ span) (l := l) (by rw [HQE.out]; exact hi)).1)
            have HAG := Lib.hid hAG
            have HAL : Hid (AG.length = q.length) := Lib.hid (by rw [← hAG, agL_len])
            have HSC : Hid (scanE span AG = 0) := Lib.hid (by rw [← hAG, ← HQE.out]; exact ages_scan l _ span HSE.out)
            have HG2 : Hid (gainsR l how span gs (k + 1) = crRs (gainsR l how span gs k) (partsL l C q ws q.length)) := Lib.hid (HGS.out.trans (by unfold gainR; rw [HQE.out, hAG, hws]; rfl))
            have HN2 : Hid (noneN l span gs (k + 1) = noneN l span gs k) := Lib.hid (HNS.out.trans (by rw [HQE.out, if_neg (by omega)]; exact Int.add_zero _))
            have HWL : Hid (ws.length = q.length) := Lib.hid (by rw [← hws, wsN_len, HAL.out])
            have HWI : Hid ((ws.map fun (x : Nat) => (x : Int)) = wgtL how span AG AG.length) := Lib.hid (by rw [← hws]; exact wsN_ints (by rw [HAL.out]; exact hq12))
            have HWB : Hid (∀ x ∈ ws, x ≤ 262144) := Lib.hid (by rw [← hws]; exact wsN_bd (by rw [HAL.out]; exact hq12))
            have HWP : Hid (0 < ws.sum ∧ ws.sum ≤ 12 * 262144) := Lib.hid (by rw [← hws]; exact ⟨wsN_pos how span AG k1 k2 (by rw [HAL.out]; exact hql), wsN_sum (by rw [HAL.out]; exact hq12)⟩)
            obtain ⟨nq, hnq⟩ : ∃ z, q.length = z := ⟨_, rfl⟩
            have HNQ := Lib.hid hnq
            rw [hnq] at hql hq12 HAL HWL HG2 ⊢
            obtain ⟨c0, hc0⟩ : ∃ z, gainsR l how span gs k = z := ⟨_, rfl⟩
            rw [hc0] at HVb HG2 hcb
            have hnq0 : ((nq : Int) == 0) = false := by simp; omega
            clear hnq hAG hws HGS HNS HQE hc0
            obtain ⟨H, hH⟩ : ∃ z, wb.heap.size = z := ⟨_, rfl⟩
            have HHE := Lib.hid hH
            have hqH : q17 < H := by have := HXb.out.1; omega
            have HBB0 : Hid (Below H wb wb) := Lib.hid (Below.refl _ _)
            clear hH
            go_wp2_with fail
            go_loopw [19, 21, 70] (fun v12 _ i wx => ∃ (j : Nat) (v : Value), j ≤ nq ∧ v = v12 ∧ i = .int .i64 j ∧ wx.ownsRow H 3 1 v j ((AG.take j).map (Value.int .i64)) ∧ Below H wb wx ∧ XB wx q17 [.string gid, .string gper, .int .i64 gat, .int .i64 (C : Int)] ∧ H ≤ wx.heap.size) (fun _ _ i _ => nq - (intOf i).toNat)
            case atStart => exact ⟨0, _, Nat.zero_le _, rfl, rfl, World.ownsRow_nil _ _ _ _, HBB0.out, HXb.out, by have := HHE.out; omega⟩
            case round =>
              obtain ⟨j, v, hj9, rfl, rfl, hO, hBx, hX, hsz⟩ := hrel
              have HO := Lib.hid hO
              have HBy := Lib.hid hBx
              have HX1 := Lib.hid hX
              clear hO hBx hX HBB0
              have HBw : Hid (Below w.heap.size w wr) := Lib.hid (HBb.out.trans (HBy.out.mono (by have := HBb.out.size; have := HHE.out; omega)))
              by_cases hlt9 : j < nq
              · --@a1
                have hkq : j < q.length := by have := HNQ.out; omega
                obtain ⟨pq, oq, haq, hpq, cq0⟩ := (show natsAt wr aq q from HQ.out.below (show Below wb.heap.size wb wr by rw [HHE.out]; exact HBy.out)).at_ hkq
                subst haq
                have hil := HQL.out q[j] (List.getElem_mem hkq)
                have hkA : j < AG.length := by have := HAL.out; omega
                have HAK : Hid (AG.getD j 0 = gat - (l[q[j]]'hil).at_) := Lib.hid (by rw [← HAG.out, agL_at _ _ _ _ hkq, getD_at l hil])
                have HTK : Hid (AG.take (j + 1) = AG.take j ++ [gat - (l[q[j]]'hil).at_]) := Lib.hid (by
                  rw [List.take_succ_eq_append_getElem hkA, ← HAK.out, List.getD_eq_getElem?_getD, List.getElem?_eq_getElem hkA]; rfl)
                obtain ⟨hm1', hm2'⟩ := HMOM.out (l[q[j]]'hil) (List.getElem_mem hil)
                obtain ⟨p, off, hap, hp, c0', c1', c2', c3'⟩ := (HI.out.below HBw.out).at4 hil (v0 := .string (l[q[j]]'hil).id) (v1 := .string (l[q[j]]'hil).person) (v2 := .string (l[q[j]]'hil).letter) (v3 := .int .i64 (l[q[j]]'hil).at_) rfl
                subst hap
                have hixl : q[j] < nl := by have := HN.out; omega
                generalize l[q[j]] = x at *
                generalize q[j] = ix at *
                obtain ⟨y0, y1, y2, y3⟩ := HX1.out.at4
                have hyl := HX1.out.1
                obtain ⟨z, hz⟩ : ∃ z, gat - x.at_ = z := ⟨_, rfl⟩
                rw [hz] at HTK
                have hw9 : IntKind.i64.wrap (gat - x.at_) = z := by rw [hz, IntKind.wrap_i64]; omega
                have HOd : Hid ((wr.drew.alloc (.cells #[.int .i64 z] 3)).ownsRow H 3 1 v j ((AG.take j).map (Value.int .i64))) := Lib.hid (row_below HO.out ((below_drewN (Below.refl wr.heap.size wr) 1).alloc (Nat.le_refl _) (.cells #[.int .i64 z] 3)))
                have HNW : Hid (∀ j u, ([.int .i64 z] : List Value)[j]? = some u → (wr.drew.alloc (.cells #[.int .i64 z] 3)).cell? ((⟨wr.heap.size, 0, none⟩ : Addr).add j) = some u) := Lib.hid (fun j u h => World.news_of_block (w := wr.drew.alloc (.cells #[.int .i64 z] 3)) (heap_alloc_new wr.drew (.cells #[.int .i64 z] 3)) j u h)
                have HSd : Hid (H ≤ (wr.drew.alloc (.cells #[.int .i64 z] 3)).heap.size) := Lib.hid (by
                  have h : (wr.drew.alloc (.cells #[.int .i64 z] 3)).heap.size = wr.heap.size + 1 := World.size_alloc _ _
                  omega)
                have HON : Hid (∀ u ∈ ([.int .i64 z] : List Value), u.oneCell' = true) := Lib.hid (by simp [Value.oneCell'])
                have HXd : Hid (XB (wr.drew.alloc (.cells #[.int .i64 z] 3)) q17 [.string gid, .string gper, .int .i64 gat, .int .i64 (C : Int)]) := Lib.hid ((HX1.out.drewN 1).alloc _)
                have HBd := Lib.hid ((below_drewN HBy.out 1).alloc (show H ≤ wr.drew.heap.size by show H ≤ wr.heap.size; omega) (.cells #[.int .i64 z] 3))
                have HOV : Hid (∀ g, v.ownBlock = some g → H ≤ g) := Lib.hid (fun g hg => (HO.out.lt g hg).1)
                have hmy : j + 1 ≤ maxLen := by unfold maxLen; omega
                have hmb : (j + 1) * 8 ≤ 140737488355328 := by omega
                clear HBw HAK HO HBy HX1 hz hm1' hm2' hp hpq
                go_upto_region 19 with (fail)
                go_region_law (refine step_append_lies (o := ⟨some 84, _, _, _, _, _⟩) _ rfl (.tmp 74) (.tmp 83) 22 rfl H 3 j0 _ 1 8 Tryz.underlying22 hj hy0 hy1 hy2 rfl (by decide) v j ((AG.take j).map (Value.int .i64)) (by simp [Act.eval]) HOd.out ⟨wr.heap.size, 0, none⟩ 1 1 [.int .i64 z] (by simp [Act.eval]) rfl HNW.out HON.out Nat.one_pos hmy hmb HSd.out _ rfl ?_; intro gq cq' w8 own8 grow8 at8 lt8)
                all_goals
                  have HO9 : Hid (w8.ownsRow H 3 1 (.slice (some ⟨gq, 0, none⟩) (j + 1) cq') (j + 1) ((AG.take (j + 1)).map (Value.int .i64))) := Lib.hid (by rw [HTK.out, List.map_append]; exact own8)
                  have HX9 := Lib.hid (HXd.out.grown grow8 (fun e => by have := HOV.out _ e; omega))
                  have HB9 := Lib.hid (HBd.out.grown grow8 HSd.out (fun g hg => HOV.out g hg))
                  have hs9 : H ≤ w8.heap.size := Nat.le_trans HSd.out grow8.size
                  clear own8 grow8 at8 lt8 HOd HNW HSd HON HXd HBd HOV c0' c1' c2' c3' cq0 y0 y1 y2 y3 hyl
                  go_wp2_with fail
                  go_roundw
                  case rel => exact ⟨j + 1, _, by omega, rfl, by go_num, HO9.out, HB9.out, HX9.out, hs9⟩
                  case measure => simp [intOf]; omega
                --@end
              · --@a2
                obtain rfl : nq = j := by omega
                rw [show AG.take nq = AG by rw [← HAL.out, List.take_length]] at HO
                obtain ⟨aa, ca, hv, -, -⟩ := row_shape HO.out
                subst hv
                obtain ⟨hwE, hwL⟩ := wbad (how := how) (span := span) (zs := AG) k1 k2 k3 k4 (by rw [HAL.out]; exact hq12) HSC.out
                have CW := Lib.hid (WeightsOf_any how span aa AG nq ca wr HAL.out (by omega) (IntsAt.of_own HO.out))
                unfold WeightsOut at CW
                rw [hwE, hwL, ← HWI.out] at CW
                have HV3 := Lib.hid (HVb.out.below (show Below wb.heap.size wb wr by rw [HHE.out]; exact HBy.out))
                have HQ3 := Lib.hid (show natsAt wr aq q from HQ.out.below (show Below wb.heap.size wb wr by rw [HHE.out]; exact HBy.out))
                clear HO HBy hwE hwL HWI HSC HAG
                go_wp2_with fail
                with_reducible refine CW.out.mono ?_
                rintro e w3 ⟨v3, rfl, ⟨aw, cw, hv3, hWI⟩, b3⟩
                rw [List.length_map, HWL.out] at hv3
                subst hv3
                have HW3 := Lib.hid (show natsAt w3 aw ws from hWI)
                have HX3 := Lib.hid (HX1.out.below b3)
                have HB3 := Lib.hid (HBw.out.trans (b3.mono HBw.out.size))
                have HV4 := Lib.hid (HV3.out.below b3)
                have HQ4 := Lib.hid (show natsAt w3 aq q from HQ3.out.below b3)
                clear hWI b3 CW HX1 HBw HV3 HQ3 HVb HQ
                obtain ⟨bm, hbm⟩ : ∃ z, w3.heap.size = z := ⟨_, rfl⟩
                have HS4 := Lib.hid (Seen.made w3)
                rw [hbm] at HS4
                have BM := (Below.refl w3.heap.size w3).alloc (Nat.le_refl _) (.map #[] 0)
                have HX4 := Lib.hid (HX3.out.below BM)
                have HB4 := Lib.hid (HB3.out.alloc HB3.out.size (.map #[] 0))
                have HW4 := Lib.hid (show natsAt (w3.alloc (.map #[] 0)) aw ws from HW3.out.below BM)
                have HV5 := Lib.hid (HV4.out.below BM)
                have HQ5 := Lib.hid (show natsAt (w3.alloc (.map #[] 0)) aq q from HQ4.out.below BM)
                have hbbm : b < bm := by rw [← hbm]; exact HV4.out.lt
                clear HX3 HB3 HW3 HV4 HQ4 BM
                go_upto_region 23 with (fail)
                try rw [hbm]
                clear hbm
                generalize w3.alloc (.map #[] 0) = w4 at *
                have CD := Lib.hid (dealt_any true C aw ws nq cw w4 hC9 HWL.out hql (by omega) HW4.out (fun x hx => by have := HWB.out x hx; omega) HWP.out.1 (by have := HWP.out.2; omega))
                obtain ⟨y0, y1, y2, y3⟩ := HX4.out.at4
                have hyl := HX4.out.1
                go_wp2_with fail
                with_reducible refine CD.out.mono ?_
                rintro e w5 ⟨gd, rfl, hD, b5⟩
                rw [deal_nats] at hD
                have HD5 := Lib.hid (show natsAt w5 (some ⟨gd, 0, none⟩) ((List.range ws.length).map (partN C ws)) from hD)
                have HB5 := Lib.hid (HB4.out.trans (b5.mono HB4.out.size))
                have HS5 := Lib.hid (HS4.out.below b5)
                have HW5 := Lib.hid (show natsAt w5 aw ws from HW4.out.below b5)
                have HV6 := Lib.hid (HV5.out.below b5)
                have HQ6 := Lib.hid (show natsAt w5 aq q from HQ5.out.below b5)
                have HI6 := Lib.hid (HI.out.below HB5.out)
                clear CD y0 y1 y2 y3 hyl hD b5 HX4 HB4 HS4 HW4 HV5 HQ5
                have hl0 : 0 < l.length := by have := HQL.out (q[0]'(by have := HNQ.out; omega)) (List.getElem_mem _); omega
                have hwbm : w.heap.size ≤ bm := by omega
                have HnQ : Hid (∀ p off, aq = some ⟨p, off, none⟩ → ¬ (p = b ∨ p = bm)) := Lib.hid (fun p off e h => by
                  obtain ⟨p', o', e2, h3, h4⟩ := HQ6.out 0 (by rw [List.length_map, HNQ.out]; omega)
                  rw [e] at e2; injection e2 with e2; injection e2 with e2 e3; subst e2
                  rcases h with h | h
                  · exact cell_no_map HV6.out h4 h
                  · exact cell_no_seen HS5.out h4 h)
                have HnA : Hid (∀ p off, aw = some ⟨p, off, none⟩ → ¬ (p = b ∨ p = bm)) := Lib.hid (fun p off e h => by
                  obtain ⟨p', o', e2, h3, h4⟩ := HW5.out 0 (by rw [List.length_map, HWL.out]; omega)
                  rw [e] at e2; injection e2 with e2; injection e2 with e2 e3; subst e2
                  rcases h with h | h
                  · exact cell_no_map HV6.out h4 h
                  · exact cell_no_seen HS5.out h4 h)
                have HnD : Hid (¬ (gd = b ∨ gd = bm)) := Lib.hid (fun h => by
                  obtain ⟨p', o', e2, h3, h4⟩ := HD5.out 0 (by rw [List.length_map, List.length_map, List.length_range, HWL.out]; omega)
                  injection e2 with e2; injection e2 with e2 e3; subst e2
                  rcases h with h | h
                  · exact cell_no_map HV6.out h4 h
                  · exact cell_no_seen HS5.out h4 h)
                have HnI : Hid (∀ p off, a = some ⟨p, off, none⟩ → ¬ (p = b ∨ p = bm)) := Lib.hid (fun p off e h => by
                  obtain ⟨p', o', e2, h3, h4⟩ := HI6.out 0 hl0
                  rw [e] at e2; injection e2 with e2; injection e2 with e2 e3; subst e2
                  have h5 := h4 0 _ rfl
                  rcases h with h | h
                  · exact cell_no_map HV6.out h5 h
                  · exact cell_no_seen HS5.out h5 h)
                have HK0 : Hid (VM w5 ZC b n1 (crRQ l C q ws c0 0).c.keys (agF (crRQ l C q ws c0 0).c)) := Lib.hid HV6.out
                have HS0 : Hid (Seen w5 bm 0 (crRQ l C q ws c0 0).seen) := Lib.hid HS5.out
                have HQS := Lib.hid (fun k => crRQ_succ l C q ws c0 k)
                have HQB2 := Lib.hid (fun k (hk : k ≤ ws.length) => crRQ_bd (l := l) (q := q) hcb HWP.out.1 hC9 k hk)
                have HFIN : Hid (crRs c0 (partsL l C q ws nq) = (crRQ l C q ws c0 nq).c) := Lib.hid rfl
                clear HV6 HS5
                go_wp2_with fail
                go_loopw [25, 26, 27, 28, 99] (fun _ _ _ _ i wx => ∃ (j m1 ns : Nat), j ≤ nq ∧ i = .int .i64 j ∧ m1 ≤ n1 + j ∧ ns ≤ j ∧ VM wx ZC b m1 (crRQ l C q ws c0 j).c.keys (agF (crRQ l C q ws c0 j).c) ∧ Seen wx bm ns (crRQ l C q ws c0 j).seen ∧ Chg w5 wx (fun i => i = b ∨ i = bm)) (fun _ _ _ _ i _ => nq - (intOf i).toNat)
                case atStart => exact ⟨0, n1, 0, Nat.zero_le _, rfl, Nat.le_refl _, Nat.le_refl _, HK0.out, HS0.out, Chg.refl _ _⟩
                case round =>
                  obtain ⟨j, m1, ns, hj8, rfl, hm8, hns, hK, hS, hCh⟩ := hrel
                  have HK := Lib.hid hK
                  have HS := Lib.hid hS
                  have HCh := Lib.hid hCh
                  clear HK0 HS0 hK hS hCh
                  by_cases hlt8 : j < nq
                  · have hkq : j < q.length := by have := HNQ.out; omega
                    have hkw : j < ws.length := by have := HWL.out; omega
                    obtain ⟨pq, oq, haq, hpq, cq0⟩ := (show natsAt wr aq q from HCh.out.ints HQ6.out HnQ.out).at_ hkq
                    obtain ⟨pw, ow, haw, hpw, cw0⟩ := (show natsAt wr aw ws from HCh.out.ints HW5.out HnA.out).at_ hkw
                    have hkd : j < ((List.range ws.length).map (partN C ws)).length := by simpa using hkw
                    obtain ⟨pd, od, had, hpd, cd0⟩ := (show natsAt wr (some ⟨gd, 0, none⟩) ((List.range ws.length).map (partN C ws)) from HCh.out.ints HD5.out (fun p off e => by injection e with e; injection e with e; rw [← e]; exact HnD.out)).at_ hkd
                    injection had with had
                    injection had with had1 had2
                    subst had1 had2
                    rw [Nat.zero_add, List.getElem_map, List.getElem_range] at cd0
                    subst haq haw
                    have hil := HQL.out q[j] (List.getElem_mem hkq)
                    have hls : (l[q[j]]'hil).letter.size ≤ 100 := (HOK.out (l[q[j]]'hil) (List.getElem_mem hil)).1.2.2.1
                    obtain ⟨p, off, hap, hp, c0', c1', c2', c3'⟩ := (HCh.out.recs HI6.out HnI.out).at4 hil (v0 := .string (l[q[j]]'hil).id) (v1 := .string (l[q[j]]'hil).person) (v2 := .string (l[q[j]]'hil).letter) (v3 := .int .i64 (l[q[j]]'hil).at_) rfl
                    subst hap
                    have hixl : q[j] < nl := by have := HN.out; omega
                    have HQ1 := Lib.hid (HQS.out j)
                    rw [show q.getD j 0 = q[j] by simp [hkq], getD_at l hil, show ws.getD j 0 = ws[j] by simp [hkw]] at HQ1
                    have hPb : partN C ws j ≤ C + 1 := partN_le C ws j hkw HWP.out.1
                    have hBD := HQB2.out j (by omega)
                    obtain ⟨hb1, hb2⟩ := hBD (l[q[j]]'hil).letter
                    have hU : (12 * k + j) * cU ≤ 200000 * 2000000000000 := Nat.mul_le_mul (by omega) (Nat.le_refl _)
                    obtain ⟨QK, hQK⟩ : ∃ z, crRQ l C q ws c0 j = z := ⟨_, rfl⟩
                    rw [hQK] at HK HS HQ1 hb1 hb2
                    generalize (l[q[j]]'hil).letter = s at *
                    generalize l[q[j]] = x at *
                    generalize q[j] = ix at *
                    generalize ws[j] = W at *
                    generalize partN C ws j = P at *
                    clear hQK hBD
                    obtain ⟨⟨ks, ce, ga⟩, sn⟩ := QK
                    have hsm : s.size ≤ maxLen := by unfold maxLen; omega
                    have hlk := HK.out.look Tryz.underlying114 (zero_cdt _) s hsm
                    have hb1' : ce s ≤ 400000000000000000 := Nat.le_trans (show ce s ≤ (12 * k + j) * cU from hb1) (Nat.le_trans hU (by decide))
                    have hb2' : ga s ≤ 12 * k + j := hb2
                    clear hb1 hb2 hU
                    rw [show agF ⟨ks, ce, ga⟩ s = .agg #[.string (nmF ks s), .int .i64 (ga s : Int), .int .i64 (ce s : Int)] from rfl] at hlk
                    obtain ⟨cv, hcv⟩ : ∃ z, ce s = z := ⟨_, rfl⟩
                    obtain ⟨gv, hgv⟩ : ∃ z, ga s = z := ⟨_, rfl⟩
                    rw [hcv] at hlk hb1'
                    rw [hgv] at hlk hb2'
                    generalize nmF ks s = nm at *
                    have hwp : IntKind.i64.wrap ((cv : Int) + (P : Int)) = (cv : Int) + (P : Int) := by rw [IntKind.wrap_i64]; omega
                    have hwg : IntKind.i64.wrap ((gv : Int) + 1) = (gv : Int) + 1 := by rw [IntKind.wrap_i64]; omega
                    have BA := (Below.refl wr.heap.size wr).alloc (Nat.le_refl _) (.cells #[.string nm, .int .i64 (gv : Int), .int .i64 (cv : Int)] 58)
                    have HB0 := Lib.hid (OB.new wr [.string nm, .int .i64 (gv : Int), .int .i64 (cv : Int)] 58)
                    simp only [List.toArray] at HB0
                    have HKa := Lib.hid (HK.out.below BA)
                    have HSa := Lib.hid (HS.out.below BA)
                    have HCa := Lib.hid (HCh.out.alloc (.cells #[.string nm, .int .i64 (gv : Int), .int .i64 (cv : Int)] 58))
                    have hbq : b < wr.heap.size ∧ bm < wr.heap.size := ⟨HK.out.lt, HS.out.lt⟩
                    have hWq : w5.heap.size ≤ wr.heap.size := HCh.out.size
                    obtain ⟨qb, hqb⟩ : ∃ z, wr.heap.size = z := ⟨_, rfl⟩
                    rw [hqb] at HB0 hbq hWq
                    have cw1 := (BA.cell (World.block_lt_of_cell? wr _ cw0)).trans cw0
                    have hpwq : pw < qb := by omega
                    have hm9 : m1 < maxLen := by unfold maxLen; omega
                    have hn9 : ns < maxLen := by unfold maxLen; omega
                    clear HK HS HCh BA
                    go_upto_region 28 with (fail)
                    try rw [hqb]
                    generalize wr.alloc (.cells #[.string nm, .int .i64 (gv : Int), .int .i64 (cv : Int)] 58) = wa at *
                    clear hlk c0' c1' c2' c3' cq0 cd0 cw0 hqb
                    have z0 := HB0.out.cell 0 _ rfl
                    have z2 := HB0.out.cell 2 _ rfl
                    have f0 := HB0.out.free 0
                    have f2 := HB0.out.free 2
                    have hbl := HB0.out.lt
                    have HBy := Lib.hid ((HB0.out.put (cs' := [.string s, .int .i64 (gv : Int), .int .i64 (cv : Int)]) 0 (.string s) rfl).put (cs' := [.string s, .int .i64 (gv : Int), .int .i64 ((cv : Int) + (P : Int))]) 2 (.int .i64 ((cv : Int) + (P : Int))) rfl)
                    have G : wa.grownBy ((wa.setCell ⟨qb, 0, none⟩ (.string s)).setCell ⟨qb, 2, none⟩ (.int .i64 ((cv : Int) + (P : Int)))) (some qb) := grown_set (grown_set (grown_same wa (some qb)) (p := ⟨qb, 0, none⟩) (.inl rfl) (.string s)) (p := ⟨qb, 2, none⟩) (.inl rfl) (.int .i64 ((cv : Int) + (P : Int)))
                    have HVy := Lib.hid (HKa.out.kept G (fun e => by have := Option.some.inj e; omega))
                    have HSy := Lib.hid (HSa.out.kept G (fun e => by have := Option.some.inj e; omega))
                    have HCy := Lib.hid (HCa.out.trans (Chg.of_grown (B := fun i => i = qb) G (fun i hi => (Option.some.inj hi).symm)) (fun i hi => .inr (by omega)))
                    have cwy := G.cell cw1 (fun e => by have := Option.some.inj e; simp at this; omega)
                    clear HKa HSa HCa HB0 G cw1
                    go_upto_region 29 with (fail)
                    generalize ((wa.setCell ⟨qb, 0, none⟩ (.string s)).setCell ⟨qb, 2, none⟩ (.int .i64 ((cv : Int) + (P : Int)))) = wy at *
                    clear z0 z2 f0 f2 hbl
                    obtain ⟨x0, x1, x2⟩ : wy.cell? ⟨qb, 0, none⟩ = some (.string s) ∧ wy.cell? ⟨qb, 1, none⟩ = some (.int .i64 (gv : Int)) ∧ wy.cell? ⟨qb, 2, none⟩ = some (.int .i64 ((cv : Int) + (P : Int))) := ⟨HBy.out.cell 0 _ rfl, HBy.out.cell 1 _ rfl, HBy.out.cell 2 _ rfl⟩
                    have hbl := HBy.out.lt
                    by_cases hW : W = 0
                    · have HQ3 : Hid (crRQ l C q ws c0 (j + 1) = ⟨⟨addK ks s, upF ce s P, ga⟩, sn⟩) := Lib.hid (HQ1.out.trans (by
                        show (⟨⟨addK ks s, upF ce s P, if 0 < W ∧ hasS sn s = false then upF ga s 1 else ga⟩, if 0 < W ∧ hasS sn s = false then sn ++ [s] else sn⟩ : CrQ) = _
                        rw [if_neg (fun h => absurd h.1 (by omega)), if_neg (fun h => absurd h.1 (by omega))]))
                      subst hW
                      go_wp2_with (at_mapUpdate; refine wpList_update_vm _ rfl _ _ _ 114 58 rfl Tryz.underlying114 ZC b m1 ks (agF ⟨ks, ce, ga⟩) rfl HVy.out hm9 s (.agg #[.string s, .int .i64 ((gv : Int)), .int .i64 ((cv : Int) + (P : Int))]) rfl rfl hsm ?_)
                      intro w9 hv9 g9
                      have HV9 : Hid (VM w9 ZC b (m1 + 1) (crRQ l C q ws c0 (j + 1)).c.keys (agF (crRQ l C q ws c0 (j + 1)).c)) := Lib.hid (by
                        rw [HQ3.out]
                        have e := agF_put ⟨ks, ce, ga⟩ s (upF ce s P) (ga) (fun x hx => upF_other _ _ hx) (fun x hx => rfl)
                        rw [hgv] at e
                        rw [upF_same, hcv, show ((cv + P : Nat) : Int) = (cv : Int) + (P : Int) from rfl] at e
                        rw [e] at hv9
                        exact hv9)
                      have HS9 : Hid (Seen w9 bm (ns) (crRQ l C q ws c0 (j + 1)).seen) := Lib.hid (by
                        rw [HQ3.out]
                        exact HSy.out.kept g9 (fun e => by have := Option.some.inj e; omega))
                      have HC9 := Lib.hid (HCy.out.trans (Chg.of_grown (B := fun i => i = b ∨ i = bm) g9 (fun i hi => .inl (Option.some.inj hi).symm)) (fun i hi => .inl hi))
                      clear hv9 g9
                      go_wp2_with fail
                      go_roundw
                      case rel => exact ⟨j + 1, m1 + 1, ns, by omega, by go_num, by omega, by omega, HV9.out, HS9.out, HC9.out⟩
                      case measure => simp [intOf]; omega
                    · have hWp : (0 : Int) < (W : Int) := by omega
                      have hW0 : 0 < W := by omega
                      by_cases hss : hasS sn s = true
                      · --@c2
                        have HQ3 : Hid (crRQ l C q ws c0 (j + 1) = ⟨⟨addK ks s, upF ce s P, ga⟩, sn⟩) := Lib.hid (HQ1.out.trans (by
                          show (⟨⟨addK ks s, upF ce s P, if 0 < W ∧ hasS sn s = false then upF ga s 1 else ga⟩, if 0 < W ∧ hasS sn s = false then sn ++ [s] else sn⟩ : CrQ) = _
                          rw [if_neg (fun h => by rw [h.2] at hss; cases hss), if_neg (fun h => by rw [h.2] at hss; cases hss)]))
                        have hlk2 := HSy.out.look s hsm
                        rw [hss] at hlk2
                        go_wp2_with (first | (at_mapUpdate; refine wpList_update_vm _ rfl _ _ _ 114 58 rfl Tryz.underlying114 ZC b m1 ks (agF ⟨ks, ce, ga⟩) rfl HVy.out hm9 s (.agg #[.string s, .int .i64 ((gv : Int)), .int .i64 ((cv : Int) + (P : Int))]) rfl rfl hsm ?_))
                        intro w9 hv9 g9
                        have HV9 : Hid (VM w9 ZC b (m1 + 1) (crRQ l C q ws c0 (j + 1)).c.keys (agF (crRQ l C q ws c0 (j + 1)).c)) := Lib.hid (by
                          rw [HQ3.out]
                          have e := agF_put ⟨ks, ce, ga⟩ s (upF ce s P) (ga) (fun x hx => upF_other _ _ hx) (fun x hx => rfl)
                          rw [hgv] at e
                          rw [upF_same, hcv, show ((cv + P : Nat) : Int) = (cv : Int) + (P : Int) from rfl] at e
                          rw [e] at hv9
                          exact hv9)
                        have HS9 : Hid (Seen w9 bm (ns) (crRQ l C q ws c0 (j + 1)).seen) := Lib.hid (by
                          rw [HQ3.out]
                          exact HSy.out.kept g9 (fun e => by have := Option.some.inj e; omega))
                        have HC9 := Lib.hid (HCy.out.trans (Chg.of_grown (B := fun i => i = b ∨ i = bm) g9 (fun i hi => .inl (Option.some.inj hi).symm)) (fun i hi => .inl hi))
                        clear hv9 g9
                        go_wp2_with fail
                        go_roundw
                        case rel => exact ⟨j + 1, m1 + 1, ns, by omega, by go_num, by omega, by omega, HV9.out, HS9.out, HC9.out⟩
                        case measure => simp [intOf]; omega
                        --@end
                      · --@c3
                        have hss' : hasS sn s = false := by simpa using hss
                        have HQ3 : Hid (crRQ l C q ws c0 (j + 1) = ⟨⟨addK ks s, upF ce s P, upF ga s 1⟩, sn ++ [s]⟩) := Lib.hid (HQ1.out.trans (by
                          show (⟨⟨addK ks s, upF ce s P, if 0 < W ∧ hasS sn s = false then upF ga s 1 else ga⟩, if 0 < W ∧ hasS sn s = false then sn ++ [s] else sn⟩ : CrQ) = _
                          rw [if_pos (⟨hW0, hss'⟩), if_pos (⟨hW0, hss'⟩)]))
                        have hlk2 := HSy.out.look s hsm
                        rw [hss'] at hlk2
                        go_wp2_with (first | (at_mapUpdate; refine wpList_update_seen _ rfl _ _ _ rfl _ _ _ rfl HSy.out hn9 _ rfl rfl hsm ?_))
                        intro w7 hS7 g7
                        have HB7 := Lib.hid (HBy.out.grown g7 (fun e => by have := Option.some.inj e; omega))
                        have HV7 := Lib.hid (HVy.out.kept g7 (fun e => by have := Option.some.inj e; omega))
                        have HC7 := Lib.hid (HCy.out.trans (Chg.of_grown (B := fun i => i = b ∨ i = bm) g7 (fun i hi => .inr (Option.some.inj hi).symm)) (fun i hi => .inl hi))
                        have HS7 := Lib.hid hS7
                        clear hlk2 hS7 g7 x0 x1 x2 hbl HBy HVy HCy HSy cwy
                        have x1 := HB7.out.cell 1 _ rfl
                        have f1 := HB7.out.free 1
                        have hbl := HB7.out.lt
                        have HB8 := Lib.hid (HB7.out.put (cs' := [.string s, .int .i64 ((gv : Int) + 1), .int .i64 ((cv : Int) + (P : Int))]) 1 (.int .i64 ((gv : Int) + 1)) rfl)
                        have HV8 := Lib.hid (HV7.out.kept (cr_set (q := qb) (i := 1) (.int .i64 ((gv : Int) + 1))) (fun e => by have := Option.some.inj e; omega))
                        have HS8 := Lib.hid (HS7.out.kept (cr_set (q := qb) (i := 1) (.int .i64 ((gv : Int) + 1))) (fun e => by have := Option.some.inj e; omega))
                        have HC8 := Lib.hid (HC7.out.set (p := ⟨qb, 1, none⟩) (.inr hWq) (.int .i64 ((gv : Int) + 1)))
                        go_upto_region 32 with (fail)
                        generalize w7.setCell ⟨qb, 1, none⟩ (.int .i64 ((gv : Int) + 1)) = w8 at *
                        clear x1 f1 hbl HB7 HV7 HS7 HC7
                        have x0 := HB8.out.cell 0 _ rfl
                        have x1 := HB8.out.cell 1 _ rfl
                        have x2 := HB8.out.cell 2 _ rfl
                        have hbl := HB8.out.lt
                        go_wp2_with (at_mapUpdate; refine wpList_update_vm _ rfl _ _ _ 114 58 rfl Tryz.underlying114 ZC b m1 ks (agF ⟨ks, ce, ga⟩) rfl HV8.out hm9 s (.agg #[.string s, .int .i64 ((gv : Int) + 1), .int .i64 ((cv : Int) + (P : Int))]) rfl rfl hsm ?_)
                        intro w9 hv9 g9
                        have HV9 : Hid (VM w9 ZC b (m1 + 1) (crRQ l C q ws c0 (j + 1)).c.keys (agF (crRQ l C q ws c0 (j + 1)).c)) := Lib.hid (by
                          rw [HQ3.out]
                          have e := agF_put ⟨ks, ce, ga⟩ s (upF ce s P) (upF ga s 1) (fun x hx => upF_other _ _ hx) (fun x hx => upF_other _ _ hx)
                          rw [upF_same ga, hgv, show ((gv + 1 : Nat) : Int) = (gv : Int) + 1 from rfl] at e
                          rw [upF_same, hcv, show ((cv + P : Nat) : Int) = (cv : Int) + (P : Int) from rfl] at e
                          rw [e] at hv9
                          exact hv9)
                        have HS9 : Hid (Seen w9 bm (ns + 1) (crRQ l C q ws c0 (j + 1)).seen) := Lib.hid (by
                          rw [HQ3.out]
                          exact HS8.out.kept g9 (fun e => by have := Option.some.inj e; omega))
                        have HC9 := Lib.hid (HC8.out.trans (Chg.of_grown (B := fun i => i = b ∨ i = bm) g9 (fun i hi => .inl (Option.some.inj hi).symm)) (fun i hi => .inl hi))
                        clear hv9 g9
                        go_wp2_with fail
                        go_roundw
                        case rel => exact ⟨j + 1, m1 + 1, ns + 1, by omega, by go_num, by omega, by omega, HV9.out, HS9.out, HC9.out⟩
                        case measure => simp [intOf]; omega
                        --@end
                  · obtain rfl : nq = j := by omega
                    have HR1 : Hid (Below w.heap.size w wr) := Lib.hid (below_cr HB5.out HCh.out (fun i hi => by rcases hi with h | h <;> omega))
                    have HR2 := Lib.hid HK.out
                    clear HCh HK HS
                    go_wp2_with fail
                    go_roundw
                    case rel => exact ⟨k + 1, m1, by omega, by go_num, by rw [HN2.out], by omega, by rw [HG2.out, HFIN.out]; exact HR2.out, HR1.out⟩
                    case measure => simp [intOf]; omega
                --@end
          · have hq0 : q.length = 0 := by omega
            have HG2 : Hid (gainsR l how span gs (k + 1) = gainsR l how span gs k) := Lib.hid (HGS.out.trans (gain_nil (by rw [HQE.out]; exact hq0)).2)
            have HN2 : Hid (noneN l span gs (k + 1) = noneN l span gs k + (C : Int)) := Lib.hid (HNS.out.trans (by rw [HQE.out, if_pos hq0]))
            obtain ⟨z, hz⟩ : ∃ z, noneN l span gs k = z := ⟨_, rfl⟩
            rw [hz] at HN2 hnb1 hnb2 ⊢
            rw [hq0]
            have hwz : IntKind.i64.wrap (z + (C : Int)) = z + (C : Int) := by rw [IntKind.wrap_i64]; omega
            obtain ⟨y0, y1, y2, y3⟩ := HXb.out.at4
            have hyl := HXb.out.1
            go_wp2_with fail
            go_roundw
            case rel => exact ⟨k + 1, n1, by omega, by go_num, by rw [HN2.out], by omega, by rw [HG2.out]; exact HVb.out, HBb.out⟩
            case measure => simp [intOf]; omega
          --@end
        · obtain rfl : ng = k := by omega
          obtain ⟨c, hc⟩ : ∃ z, gainsR l how span gs ng = z := ⟨_, rfl⟩
          obtain ⟨z, hz⟩ : ∃ z, noneN l span gs ng = z := ⟨_, rfl⟩
          have hng : ng ≤ gs.length := by have := HM.out; omega
          have HJR := Lib.hid (CrJ.gains l how span gs k1 k2 ng hng)
          have HKL : Hid (∀ s ∈ (gainsR l how span gs ng).keys, s ∈ LTS) := Lib.hid (gainsR_keys l how span gs (fun s => s ∈ LTS) (fun x hx => (HOK.out x hx).2) ng hng)
          have HCBC := Lib.hid (HCB.out ng hng)
          rw [hc] at HV HJR HKL HCBC
          rw [hz] at HNN ⊢
          have HND : Hid c.keys.Nodup := Lib.hid HJR.out.nr
          have hk8 : c.keys.length ≤ 8 := few_keys HND.out HKL.out
          have hbr := HV.out.lt
          obtain ⟨r, hr⟩ : ∃ z, wr.heap.size = z := ⟨_, rfl⟩
          have hwr : w.heap.size ≤ r := by have := HB.out.size; omega
          rw [hr] at hbr
          have HBW := Lib.hid (fun w' (g : wr.grownBy w' none) => HB.out.grown g HB.out.size (fun g hg => by cases hg))
          clear hc hz HGB HMOM HCB HNB HI HJ HB HKL
          go_wp2_with (first | (at_range; refine wpList_range_vm wr rfl _ 114 58 rfl Tryz.underlying114 ZC b n1 c.keys (agF c) rfl HV.out ?_; intro w0 cnt0 hr0 hg0 hs0))
          try rw [hr] at hr0
          try rw [hr] at hs0
          try rw [hr]
          have HR0 := Lib.hid hr0
          have HB0 := Lib.hid (HBW.out w0 hg0)
          obtain ⟨B3, hB3⟩ : ∃ z, r + 1 = z := ⟨_, rfl⟩
          rw [hB3] at hs0
          clear HBW HV hg0 hr0 hr
          go_frame
          go_loopw [29, 31] (fun v29 _ wx => ∃ (dn : List ByteArray) (cnt j : Nat) (v : Value), v = v29 ∧ (dn.filter fun s => decide (0 < c.ga s)).length = j ∧ VR wx ZC b r n1 c.keys (agF c) dn cnt ∧ wx.ownsRow B3 58 3 v j (((dn.filter fun s => decide (0 < c.ga s)).map c.at_).flatMap Cdt.cells) ∧ Below w.heap.size w wx ∧ B3 ≤ wx.heap.size) (fun _ _ wx => wx.rangeLeft b r)
          case atStart => exact ⟨[], cnt0, 0, _, rfl, rfl, HR0.out, World.ownsRow_nil _ _ _ _, HB0.out, by omega⟩
          case round =>
            obtain ⟨dn, cnt, j, v, rfl, hj, hR, hO, hB, hsz⟩ := hrel
            have hm0 := hR.left_eq
            have HR := Lib.hid hR
            have HO := Lib.hid hO
            have HB := Lib.hid hB
            have HJL := Lib.hid hj
            have hdl : dn.length ≤ 8 := Nat.le_trans (few_keys hR.sub.1 hR.sub.2) hk8
            have hj8 : j ≤ 8 := by rw [← hj]; exact Nat.le_trans (List.length_filter_le _ _) hdl
            clear HR0 HB0 hR hO hB hj
            go_wp2_with (first | (at_next; refine wpList_next_vm wr rfl _ rfl ZC b r n1 cnt c.keys dn (agF c) rfl HR.out HND.out ?_ ?_))
            · --@f1
              intro hpm
              obtain ⟨m, hm⟩ : ∃ z, (dn.filter fun s => decide (0 < c.ga s)).map c.at_ = z := ⟨_, rfl⟩
              have HPM : Hid (m.Perm ((c.keys.filter fun s => decide (0 < c.ga s)).map c.at_)) := Lib.hid (by rw [← hm]; exact (hpm.filter _).map _)
              have HML : Hid (m.length = j) := Lib.hid (by rw [← hm, List.length_map]; exact HJL.out)
              rw [hm] at HO
              have HLS : Hid (srtC m = LL) := Lib.hid (by rw [srtC_isort, HLL.out]; exact crL_same HJR.out m HPM.out)
              obtain ⟨av, cv, hv, -, -⟩ := row_shape HO.out
              subst hv
              have CS := Lib.hid (sortCr_any B3 wr av j cv m HO.out HML.out (by omega))
              have HOB : Hid (∀ g, (Value.slice av j cv).ownBlock = some g → B3 ≤ g) := Lib.hid (fun g hg => (HO.out.lt g hg).1)
              clear hm HO HR HPM HJR hpm hm0
              go_wp2_with fail
              with_reducible refine CS.out.mono ?_
              rintro e ws ⟨rfl, hrow, hgs⟩
              have HB9 := Lib.hid (HB.out.grown hgs HB.out.size (fun g hg => by have := HOB.out g hg; omega))
              rw [HLS.out, HML.out] at hrow
              have hll : LL.length = j := by rw [← HLS.out, srtC_len, HML.out]
              rw [← hll] at hrow
              obtain ⟨a9, c9, hv9, hr9, -, -⟩ := RAt.of_own hrow (fun x _ => x.len)
              have HCI : Hid (CrIs ws (.slice av j cv) LL) := Lib.hid ⟨a9, c9, by rw [hll] at hv9 ⊢; exact hv9, hr9⟩
              clear hrow hgs hr9 hv9 CS
              go_wp2_with fail
              refine bodyPost_ret (v := .tuple #[.slice av j cv, .int .i64 z, .int .i64 0]) (by simp [results, Tryz.results22, go_sem]) rfl ?_
              rw [HNN.out]
              exact ⟨_, rfl, HCI.out, HB9.out⟩
              --@end
            · --@f2
              intro s w1 cnt1 hs hnd1 hs9 hR1 hlt hg1 hs1 hen
              have hag : agF c s = .agg #[.string s, .int .i64 (c.ga s : Int), .int .i64 (c.ce s : Int)] := by unfold agF nmF; rw [if_pos (hasS_mem.2 hs)]
              rw [hag] at hen ⊢
              have HR1 := Lib.hid hR1
              have HO1 := Lib.hid (row_grown HO.out hg1 (fun g hg e => by have := (HO.out.lt g hg).1; injection e with e; omega))
              have HB1 := Lib.hid (HB.out.grown hg1 HB.out.size (fun g hg => by injection hg with e; omega))
              have hga : c.ga s ≤ 12000 := by have := (HCBC.out s).2; omega
              have hj1 : 0 < c.ga s → ((dn ++ [s]).filter fun s => decide (0 < c.ga s)) = (dn.filter fun s => decide (0 < c.ga s)) ++ [s] := fun h => by rw [List.filter_append]; simp [h]
              have hj2 : ¬ 0 < c.ga s → ((dn ++ [s]).filter fun s => decide (0 < c.ga s)) = (dn.filter fun s => decide (0 < c.ga s)) := fun h => by rw [List.filter_append]; simp [h]
              have HJ1 := Lib.hid hj1
              have HJ2 := Lib.hid hj2
              clear hj1 hj2 HO HB HR hR1 hg1 hag
              have HX := Lib.hid (XB.new w1 [.string s, .int .i64 (c.ga s : Int), .int .i64 (c.ce s : Int)] 58)
              simp only [List.toArray] at HX
              have BA := (Below.refl w1.heap.size w1).alloc (Nat.le_refl _) (.cells #[.string s, .int .i64 (c.ga s : Int), .int .i64 (c.ce s : Int)] 58)
              have HRa := Lib.hid (HR1.out.below BA)
              have HOa := Lib.hid (row_below HO1.out BA)
              have HBa := Lib.hid (HB1.out.trans (BA.mono HB1.out.size))
              have hsa : B3 ≤ (w1.alloc (.cells #[.string s, .int .i64 (c.ga s : Int), .int .i64 (c.ce s : Int)] 58)).heap.size := by rw [World.size_alloc]; omega
              have hqr : B3 ≤ w1.heap.size := by omega
              clear BA HR1 HO1 HB1 hs1
              go_upto_region 39 with (fail)
              generalize w1.alloc (.cells #[.string s, .int .i64 (c.ga s : Int), .int .i64 (c.ce s : Int)] 58) = wa at *
              generalize w1.heap.size = q at *
              obtain ⟨x0, x1, x2⟩ : wa.cell? ⟨q, 0, none⟩ = some (.string s) ∧ wa.cell? ⟨q, 1, none⟩ = some (.int .i64 (c.ga s : Int)) ∧ wa.cell? ⟨q, 2, none⟩ = some (.int .i64 (c.ce s : Int)) := ⟨HX.out.2 0 _ rfl, HX.out.2 1 _ rfl, HX.out.2 2 _ rfl⟩
              have hxl := HX.out.1
              by_cases hgp : 0 < c.ga s
              · have hgp' : (0 : Int) < (c.ga s : Int) := by omega
                have BA := (Below.refl wa.heap.size wa).alloc (Nat.le_refl _) (.cells #[.string s, .int .i64 (c.ga s : Int), .int .i64 (c.ce s : Int)] 58)
                have HRb := Lib.hid (HRa.out.below BA)
                have HOb := Lib.hid (row_below HOa.out BA)
                have HBb := Lib.hid (HBa.out.trans (BA.mono HBa.out.size))
                have HNW : Hid (∀ j u, ([.string s, .int .i64 (c.ga s : Int), .int .i64 (c.ce s : Int)] : List Value)[j]? = some u → (wa.alloc (.cells #[.string s, .int .i64 (c.ga s : Int), .int .i64 (c.ce s : Int)] 58)).cell? ((⟨wa.heap.size, 0, none⟩ : Addr).add j) = some u) := Lib.hid (fun j u h => World.news_of_block (heap_alloc_new wa (.cells #[.string s, .int .i64 (c.ga s : Int), .int .i64 (c.ce s : Int)] 58)) j u h)
                have HSb : Hid (B3 ≤ (wa.alloc (.cells #[.string s, .int .i64 (c.ga s : Int), .int .i64 (c.ce s : Int)] 58)).heap.size) := Lib.hid (by rw [World.size_alloc]; omega)
                have HOB : Hid (∀ g, v.ownBlock = some g → B3 ≤ g) := Lib.hid (fun g hg => (HOa.out.lt g hg).1)
                have hmy : j + 1 ≤ maxLen := by unfold maxLen; omega
                have hmb : (j + 1) * 32 ≤ 140737488355328 := by omega
                have HTK := Lib.hid (show ((((dn ++ [s]).filter fun s => decide (0 < c.ga s)).map c.at_).flatMap Cdt.cells) = (((dn.filter fun s => decide (0 < c.ga s)).map c.at_).flatMap Cdt.cells) ++ [.string s, .int .i64 (c.ga s : Int), .int .i64 (c.ce s : Int)] by
                  rw [HJ1.out hgp, List.map_append, List.flatMap_append]
                  simp [Crd.at_, Cdt.cells])
                have HLK := Lib.hid (show ((dn ++ [s]).filter fun s => decide (0 < c.ga s)).length = j + 1 by rw [HJ1.out hgp, List.length_append, HJL.out]; rfl)
                clear HRa HOa HBa BA HJ1 HJ2
                go_wp2_with (first | (at_builtin; refine wpList_append_lies _ rfl _ _ 53 rfl B3 58 i0 _ 3 32 Tryz.underlying53 hi hz0 hz1 hz2 rfl (by decide) v j _ rfl HOb.out ⟨wa.heap.size, 0, none⟩ 1 1 [.string s, .int .i64 (c.ga s : Int), .int .i64 (c.ce s : Int)] rfl rfl HNW.out ?ca2 Nat.one_pos hmy hmb HSb.out _ rfl ?_))
                case ca2 => simp [Value.oneCell']
                intro gq cq9 w8 own8 grow8 at8 lt8
                have HO9 : Hid (w8.ownsRow B3 58 3 (.slice (some ⟨gq, 0, none⟩) (j + 1) cq9) (j + 1) (((dn ++ [s]).filter fun s => decide (0 < c.ga s)).map c.at_ |>.flatMap Cdt.cells)) := Lib.hid (by rw [HTK.out]; exact own8)
                have HR9 := Lib.hid (HRb.out.kept grow8 (fun e => by have := HOB.out b e.symm; omega) (fun e => by have := HOB.out r e.symm; omega))
                have HB9 := Lib.hid (HBb.out.grown grow8 HBb.out.size (fun g hg => by have := HOB.out g hg; omega))
                have hs9 : B3 ≤ w8.heap.size := Nat.le_trans HSb.out grow8.size
                clear own8 grow8 at8 lt8 HOb HRb HBb HNW HSb HOB x0 x1 x2 hxl HX HTK
                go_wp2_with fail
                go_roundw
                case rel => exact ⟨dn ++ [s], cnt1, j + 1, _, rfl, HLK.out, HR9.out, HO9.out, HB9.out, hs9⟩
                case measure => rw [HR9.out.left_eq, hm0]; exact hlt
              · have hgp' : ¬ (0 : Int) < (c.ga s : Int) := by omega
                go_wp2_with fail
                go_roundw
                case rel => exact ⟨dn ++ [s], cnt1, j, v, rfl, by rw [HJ2.out hgp]; exact HJL.out, HRa.out, by rw [HJ2.out hgp]; exact HOa.out, HBa.out, hsa⟩
                case measure => rw [HRa.out.left_eq, hm0]; exact hlt
              --@end
    · have e1 : (WE == 0) = false := by simpa using h3
      have e2 : (WE != 0) = true := by simpa using h3
      obtain rfl : E = WE := HE2.out
      obtain ⟨rfl, rfl⟩ := FAIL.out h3
      go_wp2_with fail
      refine bodyPost_ret (v := .tuple #[.slice none 0 0, .int .i64 0, .int .i64 E]) (by simp [results, Tryz.results22, go_sem]) rfl ?_
      exact ⟨_, rfl, CrIs.nil _, HB4.out⟩
  · have e1 : (W1 == 0) = false := by simpa using h1
    have e2 : (W1 != 0) = true := by simpa using h1
    obtain rfl : E = W1 := by
      have h := HE.out
      have h2 := HW1.out
      by_cases c : SE ≠ 0
      · rw [if_pos c] at h h2; rw [h, h2]
      · rw [if_neg c] at h h2
        rw [← h2] at h1
        rw [if_pos h1] at h
        rw [h, h2]
    obtain ⟨rfl, rfl⟩ := FAIL.out h1
    go_wp2_with fail
    refine bodyPost_ret (v := .tuple #[.slice none 0 0, .int .i64 0, .int .i64 E]) (by simp [results, Tryz.results22, go_sem]) rfl ?_
    exact ⟨_, rfl, CrIs.nil _, HB2a.out⟩
end Go.Proofs.YtgdagknjnidmiaaGreatDoor
