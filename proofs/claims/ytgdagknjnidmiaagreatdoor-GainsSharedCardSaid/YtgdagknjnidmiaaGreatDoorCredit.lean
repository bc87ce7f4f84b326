/- measure.credit (printed by gen_credit.py). -/
import Derived.Test.YtgdagknjnidmiaaGreatDoorM3
import Derived.Test.YtgdagknjnidmiaaGreatDoorNewS
import Derived.Test.YtgdagknjnidmiaaGreatDoorChg
import Derived.Test.YtgdagknjnidmiaaGreatDoorM1
import Derived.Deep.RegionWith
import Derived.Deep.DeepCutAuto
import Derived.Deep.CutBlock
set_option linter.unusedVariables false
namespace Go.Proofs.YtgdagknjnidmiaaGreatDoor
open Go.RowKit Go.Maps Deal

theorem Chg.ints {w w' : World} {B : Nat → Prop} {a : Option Addr} {zs : List Int} (h : Chg w w' B) (hr : IntsAt w a zs) (hB : ∀ p off, a = some ⟨p, off, none⟩ → ¬ B p) : IntsAt w' a zs := fun k hk => by
  obtain ⟨p, off, h1, h2, h3⟩ := hr k hk
  exact ⟨p, off, h1, Nat.lt_of_lt_of_le h2 h.size, h.cell h3 (hB p off h1)⟩
theorem deal_nats (c : Nat) (ws : List Nat) : dealL true c ws = ((List.range ws.length).map (partN c ws)).map fun (x : Nat) => (x : Int) := by
  unfold dealL
  rw [List.map_map]
  rfl
theorem zero_ptr (w : World) : (zeroValue 110).run Tryz.prog w = .ok (.pointer none) w := by kernel_rfl
/-- what has been given behind k parts -/
def crQ (l : List Snt) (C : Nat) (q ws : List Nat) (c0 : Crd) (k : Nat) : CrQ := (partsL l C q ws k).foldl crO ⟨c0, []⟩
theorem crQ_succ (l : List Snt) (C : Nat) (q ws : List Nat) (c0 : Crd) (k : Nat) : crQ l C q ws c0 (k + 1) = crO (crQ l C q ws c0 k) ((l.getD (q.getD k 0) default).letter, partN C ws k, ws.getD k 0) := by
  unfold crQ
  rw [partsL_succ, List.foldl_append]
  rfl
theorem partN_le (C : Nat) (ws : List Nat) (k : Nat) (hk : k < ws.length) (hS : 0 < ws.sum) : partN C ws k ≤ C + 1 := by
  have := qN_le C ws k hk hS
  unfold partN
  split <;> omega
theorem crQ_bd {l : List Snt} {C : Nat} {q ws : List Nat} {c0 : Crd} {M : Nat} (h : CrB c0 M) (hS : 0 < ws.sum) (hC : C ≤ 1000000000000) (k : Nat) (hk : k ≤ ws.length) : CrB (crQ l C q ws c0 k).c (M + k) := by
  have hl : (partsL l C q ws k).length = k := by unfold partsL; simp
  have := CrB.foldO (partsL l C q ws k) ⟨c0, []⟩ M h (fun p hp => by
    unfold partsL at hp
    obtain ⟨j, hj, rfl⟩ := List.mem_map.1 hp
    have hj := List.mem_range.1 hj
    have h1 := partN_le C ws j (by omega) hS
    exact Nat.le_trans h1 (by unfold cU; omega))
  rw [hl] at this
  exact this
/-- where the boxes lie: as they lay, or in new blocks -/
def BlkI (c0 : Crd) (blk0 : ByteArray → Nat) (Z : Nat) (ks : List ByteArray) (blk : ByteArray → Nat) : Prop := ∀ s, s ∈ ks → (s ∈ c0.keys ∧ blk s = blk0 s) ∨ Z ≤ blk s
theorem BlkI.start (c0 : Crd) (blk0 : ByteArray → Nat) (Z : Nat) : BlkI c0 blk0 Z c0.keys blk0 := fun s hs => .inl ⟨hs, rfl⟩
theorem BlkI.new {c0 : Crd} {blk0 blk : ByteArray → Nat} {Z q : Nat} {ks : List ByteArray} (h : BlkI c0 blk0 Z ks blk) (s : ByteArray) (hs : hasS ks s = false) (hq : Z ≤ q) : BlkI c0 blk0 Z (addK ks s) (fun x => if sameS s x = true then q else blk x) := fun x hx => by
  rcases addK_mem.1 hx with hx | rfl
  · have e : ¬ sameS s x = true := fun e => by have := sameS_eq.1 e; subst this; rw [hasS_mem.2 hx] at hs; cases hs
    simp only [if_neg e]
    exact h x hx
  · simp only [if_pos (sameS_eq.2 (rfl : x = x))]
    exact .inr hq
/-- the blocks that credit writes -/
def CrW (b : Nat) (c0 : Crd) (blk0 : ByteArray → Nat) (i : Nat) : Prop := i = b ∨ ∃ s, s ∈ c0.keys ∧ i = blk0 s
def CrW2 (b bm : Nat) (c0 : Crd) (blk0 : ByteArray → Nat) (i : Nat) : Prop := i = bm ∨ CrW b c0 blk0 i
theorem BlkI.wr {c0 : Crd} {blk0 blk : ByteArray → Nat} {Z b bm : Nat} {ks : List ByteArray} (h : BlkI c0 blk0 Z ks blk) {s : ByteArray} (hs : s ∈ ks) : CrW2 b bm c0 blk0 (blk s) ∨ Z ≤ blk s := by
  rcases h s hs with ⟨h1, h2⟩ | h1
  · exact .inl (.inr (.inr ⟨s, h1, h2⟩))
  · exact .inr h1
theorem addK_has {ks : List ByteArray} {s : ByteArray} (h : hasS ks s = true) : addK ks s = ks := if_pos h

set_option maxRecDepth 100000 in
set_option maxHeartbeats 16000000 in
theorem credit_any (b n0 lo : Nat) (c0 : Crd) (blk0 : ByteArray → Nat) (a : Option Addr) (l : List Snt) (nl cl : Nat) (gid gper : ByteArray) (gat gce : Int) (aq : Option Addr) (q : List Nat) (nq cq : Nat) (how span : Int) (M : Nat) (w : World)
    (hM : CrO w b n0 lo c0 blk0) (hcb : CrB c0 M) (hM1 : M ≤ 100000) (hn0 : n0 ≤ 100000)
    (hn : l.length = nl) (hn1 : nl ≤ 1000) (hI : RAt w a 4 Snt.cells l) (hIB : ∀ p off, a = some ⟨p, off, none⟩ → ¬ CrW b c0 blk0 p) (hok : ∀ x ∈ l, x.ok) (hmom : ∀ x ∈ l, 0 ≤ x.at_ ∧ x.at_ ≤ 4321439)
    (hq : q.length = nq) (hq0 : 0 < nq) (hq1 : nq ≤ 12) (hQ : natsAt w aq q) (hQB : ∀ p off, aq = some ⟨p, off, none⟩ → ¬ CrW b c0 blk0 p) (hql : ∀ i ∈ q, i < l.length)
    (hgood : ∀ k, k < nq → badA span (agL l ⟨gid, gper, gat, gce⟩ q) k = 0) (h1 : 1 ≤ how) (h2 : how ≤ 6) (hs1 : 1 ≤ span) (hs2 : span ≤ 4321440) (hg1 : 0 ≤ gat) (hg2 : gat ≤ 4321439) (hc1 : 0 ≤ gce) (hc2 : gce ≤ 1000000000000) :
    Calls Tryz.prog 51 #[.map (some b), .slice a nl cl, .agg #[.string gid, .string gper, .int .i64 gat, .int .i64 gce], .slice aq nq cq, .int .i64 how, .int .i64 span] w fun e w' => e = .returned (.tuple #[]) ∧ ∃ n1 blk1, n1 ≤ n0 + nq ∧ CrO w' b n1 lo (crOs c0 (partsL l gce.toNat q (wsN how span (agL l ⟨gid, gper, gat, gce⟩ q)) nq)) blk1 ∧ Chg w w' (CrW b c0 blk0) ∧ BlkI c0 blk0 w.heap.size (crOs c0 (partsL l gce.toNat q (wsN how span (agL l ⟨gid, gper, gat, gce⟩ q)) nq)).keys blk1 := by
  obtain ⟨C, hgC⟩ : ∃ C : Nat, gce = (C : Int) := ⟨gce.toNat, by omega⟩
  subst hgC
  have hC9 : C ≤ 1000000000000 := by omega
  rw [show ((C : Int)).toNat = C from rfl]
  obtain ⟨i0, hi, hz0, hz1, hz2⟩ := info_parts infoP_int
  have hmm := @run_makeMap Tryz.prog
  have HI := Lib.hid hI
  have HQ := Lib.hid hQ
  have HN := Lib.hid hn
  have HNQ := Lib.hid hq
  have HM := Lib.hid hM
  have HL := Lib.hid (fun x hx => And.intro (hok x hx) (hmom x hx))
  have HQL := Lib.hid hql
  have HIB := Lib.hid hIB
  have HQB := Lib.hid hQB
  have HGD := Lib.hid hgood
  have HCB := Lib.hid hcb
  have HX := Lib.hid (XB.new w [.string gid, .string gper, .int .i64 gat, .int .i64 (C : Int)] 102)
  have HB0 := Lib.hid ((Below.refl w.heap.size w).alloc (Nat.le_refl _) (.cells #[.string gid, .string gper, .int .i64 gat, .int .i64 (C : Int)] 102))
  obtain ⟨AG, hAG⟩ : ∃ z, agL l ⟨gid, gper, gat, (C : Int)⟩ q = z := ⟨_, rfl⟩
  have HAG := Lib.hid hAG
  have HAL : Hid (AG.length = nq) := Lib.hid (by rw [← hAG, agL_len]; exact hq)
  rw [hAG] at HGD
  rw [hAG]
  obtain ⟨ws, hws⟩ : ∃ z, wsN how span AG = z := ⟨_, rfl⟩
  rw [hws]
  have HWL : Hid (ws.length = nq) := Lib.hid (by rw [← hws, wsN_len, HAL.out])
  have HWI : Hid ((ws.map fun (x : Nat) => (x : Int)) = wgtL how span AG nq) := Lib.hid (by rw [← hws, wsN_ints (by rw [HAL.out]; exact hq1), HAL.out])
  have HWB : Hid (∀ x ∈ ws, x ≤ 262144) := Lib.hid (by rw [← hws]; exact wsN_bd (by rw [HAL.out]; exact hq1))
  have HWP : Hid (0 < ws.sum ∧ ws.sum ≤ 12 * 262144) := Lib.hid (by rw [← hws]; exact ⟨wsN_pos how span AG h1 h2 (by rw [HAL.out]; exact hq0), wsN_sum (by rw [HAL.out]; exact hq1)⟩)
  have HAP : Hid (∀ p off, a = some ⟨p, off, none⟩ → p < w.heap.size) := Lib.hid (fun p off e => by
    have hl0 : 0 < l.length := by have := hql (q[0]'(by omega)) (List.getElem_mem (by omega)); omega
    obtain ⟨p', o', e2, h3, -⟩ := hI 0 hl0
    rw [e] at e2
    injection e2 with e2
    injection e2 with e2
    omega)
  have HQP : Hid (∀ p off, aq = some ⟨p, off, none⟩ → p < w.heap.size) := Lib.hid (fun p off e => by
    obtain ⟨p', o', e2, h3, -⟩ := hQ 0 (by rw [List.length_map]; omega)
    rw [e] at e2
    injection e2 with e2
    injection e2 with e2
    omega)
  clear hn hI hq hQ hM hok hmom hql hIB hQB hgood hAG hcb hws
  simp only [List.toArray] at HX
  go_enter Tryz.func51, Tryz.ntmps51
  go_upto_region 2 with (fail)
  obtain ⟨H, hH⟩ : ∃ z, w.heap.size = z := ⟨_, rfl⟩
  have HH := Lib.hid hH
  rw [hH] at HX HB0
  try rw [hH]
  clear hH
  go_wp2_with fail
  go_loopw [12, 14, 23] (fun v12 _ i wr => ∃ (k : Nat) (v : Value), k ≤ nq ∧ v = v12 ∧ i = .int .i64 k ∧ wr.ownsRow (H + 1) 3 1 v k ((AG.take k).map (Value.int .i64)) ∧ Below H w wr ∧ XB wr H [.string gid, .string gper, .int .i64 gat, .int .i64 (C : Int)] ∧ H + 1 ≤ wr.heap.size) (fun _ _ i _ => nq - (intOf i).toNat)
  case atStart => exact ⟨0, _, Nat.zero_le _, rfl, rfl, World.ownsRow_nil _ _ _ _, HB0.out, HX.out, by simp; have := HH.out; omega⟩
  case round =>
    obtain ⟨k, v, hk, rfl, rfl, hO, hB, hX, hsz⟩ := hrel
    have HO := Lib.hid hO
    have HB := Lib.hid hB
    have HX1 := Lib.hid hX
    clear hO hB hX HX HB0
    by_cases hlt : k < nq
    · --@a1
      have hkq : k < q.length := by have := HNQ.out; omega
      have HBw : Hid (Below w.heap.size w wr) := Lib.hid (by rw [HH.out]; exact HB.out)
      obtain ⟨pq, oq, haq, hpq, cq0⟩ := (show natsAt wr aq q from (HQ.out).below HBw.out).at_ hkq
      subst haq
      have hil := HQL.out q[k] (List.getElem_mem hkq)
      have HAK : Hid (AG.getD k 0 = gat - (l[q[k]]'hil).at_) := Lib.hid (by rw [← HAG.out, agL_at _ _ _ _ hkq, getD_at l hil])
      have hkA : k < AG.length := by have := HAL.out; omega
      have HTK : Hid (AG.take (k + 1) = AG.take k ++ [gat - (l[q[k]]'hil).at_]) := Lib.hid (by
        rw [List.take_succ_eq_append_getElem hkA, ← HAK.out, List.getD_eq_getElem?_getD, List.getElem?_eq_getElem hkA]; rfl)
      obtain ⟨hlo, hm1, hm2⟩ := HL.out (l[q[k]]'hil) (List.getElem_mem hil)
      obtain ⟨p, off, hap, hp, c0', c1', c2', c3'⟩ := (HI.out.below HBw.out).at4 hil (v0 := .string (l[q[k]]'hil).id) (v1 := .string (l[q[k]]'hil).person) (v2 := .string (l[q[k]]'hil).letter) (v3 := .int .i64 (l[q[k]]'hil).at_) rfl
      subst hap
      have hixl : q[k] < nl := by have := HN.out; omega
      generalize l[q[k]] = x at *
      generalize q[k] = ix at *
      obtain ⟨y0, y1, y2, y3⟩ := HX1.out.at4
      have hyl := HX1.out.1
      obtain ⟨z, hz⟩ : ∃ z, gat - x.at_ = z := ⟨_, rfl⟩
      rw [hz] at HTK
      have hw9 : IntKind.i64.wrap (gat - x.at_) = z := by rw [hz, IntKind.wrap_i64]; omega
      have HOd : Hid ((wr.drew.alloc (.cells #[.int .i64 z] 3)).ownsRow (H + 1) 3 1 v k ((AG.take k).map (Value.int .i64))) := Lib.hid (row_below HO.out ((below_drewN (Below.refl wr.heap.size wr) 1).alloc (Nat.le_refl _) (.cells #[.int .i64 z] 3)))
      have HNW : Hid (∀ j u, ([.int .i64 z] : List Value)[j]? = some u → (wr.drew.alloc (.cells #[.int .i64 z] 3)).cell? ((⟨wr.heap.size, 0, none⟩ : Addr).add j) = some u) := Lib.hid (fun j u h => World.news_of_block (w := wr.drew.alloc (.cells #[.int .i64 z] 3)) (heap_alloc_new wr.drew (.cells #[.int .i64 z] 3)) j u h)
      have HSd : Hid (H + 1 ≤ (wr.drew.alloc (.cells #[.int .i64 z] 3)).heap.size) := Lib.hid (by
        have h : (wr.drew.alloc (.cells #[.int .i64 z] 3)).heap.size = wr.heap.size + 1 := World.size_alloc _ _
        omega)
      have HON : Hid (∀ u ∈ ([.int .i64 z] : List Value), u.oneCell' = true) := Lib.hid (by simp [Value.oneCell'])
      have HXd : Hid (XB (wr.drew.alloc (.cells #[.int .i64 z] 3)) H [.string gid, .string gper, .int .i64 gat, .int .i64 (C : Int)]) := Lib.hid ((HX1.out.drewN 1).alloc _)
      have HBd := Lib.hid ((below_drewN HB.out 1).alloc (show H ≤ wr.drew.heap.size by show H ≤ wr.heap.size; omega) (.cells #[.int .i64 z] 3))
      have HOV : Hid (∀ g, v.ownBlock = some g → H + 1 ≤ g) := Lib.hid (fun g hg => (HO.out.lt g hg).1)
      have hmy : k + 1 ≤ maxLen := by unfold maxLen; omega
      have hmb : (k + 1) * 8 ≤ 140737488355328 := by omega
      clear HBw HAK HO HB HX1 hz hm1 hm2 hlo hp hpq
      go_upto_region 5 with (fail)
      go_region_law (refine step_append_lies (o := ⟨some 37, _, _, _, _, _⟩) _ rfl (.tmp 27) (.tmp 36) 22 rfl (H + 1) 3 i0 _ 1 8 Tryz.underlying22 hi hz0 hz1 hz2 rfl (by decide) v k ((AG.take k).map (Value.int .i64)) (by simp [Act.eval]) HOd.out ⟨wr.heap.size, 0, none⟩ 1 1 [.int .i64 z] (by simp [Act.eval]) rfl HNW.out HON.out Nat.one_pos hmy hmb HSd.out _ rfl ?_; intro gq cq' w8 own8 grow8 at8 lt8)
      all_goals
        have HO9 : Hid (w8.ownsRow (H + 1) 3 1 (.slice (some ⟨gq, 0, none⟩) (k + 1) cq') (k + 1) ((AG.take (k + 1)).map (Value.int .i64))) := Lib.hid (by rw [HTK.out, List.map_append]; exact own8)
        have HX9 := Lib.hid (HXd.out.grown grow8 (fun e => by have := HOV.out _ e; omega))
        have HB9 := Lib.hid (HBd.out.grown grow8 (Nat.le_trans (Nat.le_succ H) HSd.out) (fun g hg => by have := HOV.out g hg; omega))
        have hs9 : H + 1 ≤ w8.heap.size := Nat.le_trans HSd.out grow8.size
        clear own8 grow8 at8 lt8 HOd HNW HSd HON HXd HBd HOV c0' c1' c2' c3' cq0 y0 y1 y2 y3 hyl
        go_wp2_with fail
        go_roundw
        case rel => exact ⟨k + 1, _, by omega, rfl, by go_num, HO9.out, HB9.out, HX9.out, hs9⟩
        case measure => simp [intOf]; omega
      --@end
    · obtain rfl : nq = k := by omega
      have HTK : Hid (AG.take nq = AG) := Lib.hid (by rw [← HAL.out, List.take_length])
      rw [HTK.out] at HO
      obtain ⟨aa, ca, hv, hca, -⟩ := row_shape HO.out
      subst hv
      have CW := Lib.hid (weights_new how span aa AG nq ca wr h1 h2 hs1 hs2 HAL.out (by omega) (IntsAt.of_own HO.out) HGD.out)
      rw [← HWI.out] at CW
      have HBw : Hid (Below w.heap.size w wr) := Lib.hid (by rw [HH.out]; exact HB.out)
      clear HGD HAL HAG HTK HO HB hlt
      go_wp2_with fail
      with_reducible refine CW.out.mono ?_
      rintro e w3 ⟨v3, rfl, ⟨aw, cw, hv3, hWI⟩, b3, hN3⟩
      rw [List.length_map, HWL.out] at hv3
      subst hv3
      have HW3 := Lib.hid (show natsAt w3 aw ws from hWI)
      have HN3 := Lib.hid hN3
      have HX3 := Lib.hid (HX1.out.below b3)
      have HB3 := Lib.hid (HBw.out.trans (b3.mono HBw.out.size))
      have hs3 : H + 1 ≤ w3.heap.size := Nat.le_trans hsz b3.size
      clear hWI hN3 b3 CW HX1 HBw
      obtain ⟨bm, hbm⟩ : ∃ z, w3.heap.size = z := ⟨_, rfl⟩
      have HBM := Lib.hid hbm
      have HS4 := Lib.hid (Seen.made w3)
      rw [hbm] at HS4
      have HX4 := Lib.hid (HX3.out.alloc (.map #[] 0))
      have HB4 := Lib.hid (HB3.out.alloc HB3.out.size (.map #[] 0))
      have HW4 := Lib.hid (show natsAt (w3.alloc (.map #[] 0)) aw ws from HW3.out.below ((Below.refl w3.heap.size w3).alloc (Nat.le_refl _) (.map #[] 0)))
      have hs4 : (w3.alloc (.map #[] 0)).heap.size = bm + 1 := by rw [World.size_alloc, hbm]
      have hAW : Hid (∀ p off, aw = some ⟨p, off, none⟩ → H ≤ p ∧ p < bm) := Lib.hid (fun p off e => by
        subst e
        have e1 := HN3.out p off nq cw rfl
        obtain ⟨p', o', e2, h3, -⟩ := HW3.out 0 (by rw [List.length_map, HWL.out]; omega)
        injection e2 with e2
        injection e2 with e2
        omega)
      clear HX3 HB3 HW3 HN3
      go_upto_region 9 with (fail)
      try rw [hbm]
      clear hbm
      generalize w3.alloc (.map #[] 0) = w4 at *
      have CD := Lib.hid (divide_new C aw ws nq cw w4 hC9 HWL.out hq0 hq1 HW4.out (fun x hx => by have := HWB.out x hx; omega) HWP.out.1 (by have := HWP.out.2; omega))
      obtain ⟨y0, y1, y2, y3⟩ := HX4.out.at4
      have hyl := HX4.out.1
      go_wp2_with fail
      with_reducible refine CD.out.mono ?_
      rintro e w5 ⟨gd, cd, rfl, hD, b5, hgd⟩
      rw [deal_nats] at hD
      have HD5 := Lib.hid (show natsAt w5 (some ⟨gd, 0, none⟩) ((List.range ws.length).map (partN C ws)) from hD)
      have HB5 := Lib.hid (HB4.out.trans (b5.mono HB4.out.size))
      have HS5 := Lib.hid (HS4.out.below b5)
      have HW5 := Lib.hid (show natsAt w5 aw ws from HW4.out.below b5)
      have HC5 := Lib.hid (HM.out.below HB5.out)
      have HI5 := Lib.hid (HI.out.below HB5.out)
      have HQ5 := Lib.hid (show natsAt w5 aq q from HQ.out.below HB5.out)
      have hgd2 : bm < gd := by omega
      have hbmH : H < bm := by have := HBM.out; omega
      clear CD y0 y1 y2 y3 hyl hD b5 HX4 HB4 HS4 HW4 HI HQ hgd
      have HB2C : Hid (Chg w w5 (CrW b c0 blk0)) := Lib.hid (Chg.of_below HB5.out _)
      obtain ⟨Z, hZ⟩ : ∃ z, w5.heap.size = z := ⟨_, rfl⟩
      have HZE := Lib.hid hZ
      have hHZ : w.heap.size ≤ Z := by rw [← hZ]; exact HB5.out.size
      have hbmZ : bm < Z := by rw [← hZ]; exact HS5.out.lt
      have HBW := Lib.hid (show b < w.heap.size ∧ ∀ s, s ∈ c0.keys → blk0 s < w.heap.size from ⟨HM.out.map.lt, fun s hs => (HM.out.box s hs).lt⟩)
      have HnQ : Hid (∀ p off, aq = some ⟨p, off, none⟩ → ¬ CrW2 b bm c0 blk0 p) := Lib.hid (fun p off e h => by
        rcases h with h | h
        · have := HQP.out p off e; have := HH.out; omega
        · exact HQB.out p off e h)
      have HnI : Hid (∀ p off, a = some ⟨p, off, none⟩ → ¬ CrW2 b bm c0 blk0 p) := Lib.hid (fun p off e h => by
        rcases h with h | h
        · have := HAP.out p off e; have := HH.out; omega
        · exact HIB.out p off e h)
      have HnA : Hid (∀ p off, aw = some ⟨p, off, none⟩ → ¬ CrW2 b bm c0 blk0 p) := Lib.hid (fun p off e h => by
        obtain ⟨h3, h4⟩ := hAW.out p off e
        have hh := HH.out
        rcases h with h | h | ⟨s, hs, h⟩
        · omega
        · have := HBW.out.1; omega
        · have := HBW.out.2 s hs; omega)
      have HnD : Hid (¬ CrW2 b bm c0 blk0 gd) := Lib.hid (fun h => by
        rcases h with h | h | ⟨s, hs, h⟩
        · omega
        · have := HBW.out.1; have := HH.out; omega
        · have := HBW.out.2 s hs; have := HH.out; omega)
      have HK0 : Hid (CrO w5 b n0 lo (crQ l C q ws c0 0).c blk0) := Lib.hid HC5.out
      have HS0 : Hid (Seen w5 bm 0 (crQ l C q ws c0 0).seen) := Lib.hid HS5.out
      have HG0 : Hid (BlkI c0 blk0 Z (crQ l C q ws c0 0).c.keys blk0) := Lib.hid (BlkI.start c0 blk0 Z)
      have HQS := Lib.hid (fun k => crQ_succ l C q ws c0 k)
      have HQB2 := Lib.hid (fun k (hk : k ≤ ws.length) => crQ_bd (l := l) (q := q) HCB.out HWP.out.1 hC9 k hk)
      have HFIN : Hid (crOs c0 (partsL l C q ws nq) = (crQ l C q ws c0 nq).c) := Lib.hid rfl
      clear hZ HC5 HS5
      go_wp2_with fail
      go_loopw [17, 18, 19, 20, 49] (fun _ _ _ _ i wr => ∃ (k n1 ns : Nat) (blk : ByteArray → Nat), k ≤ nq ∧ i = .int .i64 k ∧ n1 ≤ n0 + k ∧ ns ≤ k ∧ CrO wr b n1 lo (crQ l C q ws c0 k).c blk ∧ Seen wr bm ns (crQ l C q ws c0 k).seen ∧ BlkI c0 blk0 Z (crQ l C q ws c0 k).c.keys blk ∧ Chg w5 wr (CrW2 b bm c0 blk0)) (fun _ _ _ _ i _ => nq - (intOf i).toNat)
      case atStart => exact ⟨0, n0, 0, blk0, Nat.zero_le _, rfl, Nat.le_refl _, Nat.le_refl _, HK0.out, HS0.out, HG0.out, Chg.refl _ _⟩
      case round =>
        obtain ⟨k, n1, ns, blk, hk, rfl, hn1', hns, hK, hS, hG, hCh⟩ := hrel
        have HK := Lib.hid hK
        have HS := Lib.hid hS
        have HG := Lib.hid hG
        have HCh := Lib.hid hCh
        clear HK0 HS0 HG0 hK hS hG hCh
        by_cases hlt : k < nq
        · have hkq : k < q.length := by have := HNQ.out; omega
          have hkw : k < ws.length := by have := HWL.out; omega
          obtain ⟨pq, oq, haq, hpq, cq0⟩ := (show natsAt wr aq q from HCh.out.ints HQ5.out HnQ.out).at_ hkq
          obtain ⟨pw, ow, haw, hpw, cw0⟩ := (show natsAt wr aw ws from HCh.out.ints HW5.out HnA.out).at_ hkw
          have hkd : k < ((List.range ws.length).map (partN C ws)).length := by simpa using hkw
          obtain ⟨pd, od, had, hpd, cd0⟩ := (show natsAt wr (some ⟨gd, 0, none⟩) ((List.range ws.length).map (partN C ws)) from HCh.out.ints HD5.out (fun p off e => by injection e with e; injection e with e; rw [← e]; exact HnD.out)).at_ hkd
          injection had with had
          injection had with had1 had2
          subst had1 had2
          rw [Nat.zero_add, List.getElem_map, List.getElem_range] at cd0
          subst haq haw
          have hil := HQL.out q[k] (List.getElem_mem hkq)
          obtain ⟨hlo, -, -⟩ := HL.out (l[q[k]]'hil) (List.getElem_mem hil)
          have hls : (l[q[k]]'hil).letter.size ≤ 100 := hlo.2.2.1
          obtain ⟨p, off, hap, hp, c0', c1', c2', c3'⟩ := (HCh.out.recs HI5.out HnI.out).at4 hil (v0 := .string (l[q[k]]'hil).id) (v1 := .string (l[q[k]]'hil).person) (v2 := .string (l[q[k]]'hil).letter) (v3 := .int .i64 (l[q[k]]'hil).at_) rfl
          subst hap
          have hixl : q[k] < nl := by have := HN.out; omega
          have HQ1 := Lib.hid (HQS.out k)
          rw [show q.getD k 0 = q[k] by simp [hkq], getD_at l hil, show ws.getD k 0 = ws[k] by simp [hkw]] at HQ1
          have hPb : partN C ws k ≤ C + 1 := partN_le C ws k hkw HWP.out.1
          have hBD := HQB2.out k (by omega)
          obtain ⟨hb1, hb2⟩ := hBD (l[q[k]]'hil).letter
          have hU : (M + k) * cU ≤ 200000 * 2000000000000 := Nat.mul_le_mul (by omega) (Nat.le_refl _)
          obtain ⟨QK, hQK⟩ : ∃ z, crQ l C q ws c0 k = z := ⟨_, rfl⟩
          rw [hQK] at HK HS HG HQ1 hb1 hb2
          generalize (l[q[k]]'hil).letter = s at *
          generalize l[q[k]] = x at *
          generalize q[k] = ix at *
          generalize ws[k] = W at *
          generalize partN C ws k = P at *
          clear hQK hBD
          by_cases hW : W = 0
          · subst hW
            have HQ2 : Hid (crQ l C q ws c0 (k + 1) = QK) := Lib.hid (HQ1.out.trans (if_pos rfl))
            go_wp2_with fail
            go_roundw
            case rel => exact ⟨k + 1, n1, ns, blk, by omega, by go_num, by omega, by omega, by rw [HQ2.out]; exact HK.out, by rw [HQ2.out]; exact HS.out, by rw [HQ2.out]; exact HG.out, HCh.out⟩
            case measure => simp [intOf]; omega
          · have hW0 : ((W : Int) == 0) = false := by simp; omega
            have HQ2 := Lib.hid (HQ1.out.trans (if_neg hW))
            clear HQ1
            obtain ⟨⟨ks, ce, ga⟩, sn⟩ := QK
            have hsm : s.size ≤ maxLen := by unfold maxLen; omega
            have hlk := HK.out.map.look Tryz.underlying106 (zero_ptr _) s hsm
            have hb1' : ce s ≤ 400000000000000000 := Nat.le_trans (show ce s ≤ (M + k) * cU from hb1) (Nat.le_trans hU (by decide))
            have hb2' : ga s ≤ M + k := hb2
            clear hb1 hb2 hU
            by_cases hhs : hasS ks s = true
            · --@b1
              have hsx : s ∈ ks := hasS_mem.1 hhs
              rw [show ptF ks blk s = _ from CrO.yes (c := ⟨ks, ce, ga⟩) hhs] at hlk
              have HKx := Lib.hid HK.out
              have B0 := HKx.out.box s hsx
              have b1 := B0.cell 1 _ rfl
              have b2 := B0.cell 2 _ rfl
              have e1 := B0.free 1
              have e2 := B0.free 2
              have hbl := B0.lt
              clear B0
              obtain ⟨cv, hcv⟩ : ∃ z, ce s = z := ⟨_, rfl⟩
              obtain ⟨gv, hgv⟩ : ∃ z, ga s = z := ⟨_, rfl⟩
              have HA1 := Lib.hid (HKx.out.add hsx P)
              simp only [hcv] at HA1 b2 hb1'
              simp only [hgv] at b1 hb2'
              rw [show ((cv + P : Nat) : Int) = (cv : Int) + (P : Int) from rfl] at HA1
              have hwp : IntKind.i64.wrap ((cv : Int) + (P : Int)) = ((cv + P : Nat) : Int) := by rw [IntKind.wrap_i64]; omega
              have hwg : IntKind.i64.wrap ((gv : Int) + 1) = ((gv + 1 : Nat) : Int) := by rw [IntKind.wrap_i64]; omega
              have HBN : Hid (blk s ≠ bm) := Lib.hid (by
                rcases HG.out s hsx with ⟨h3, h4⟩ | h3
                · have := HBW.out.2 s h3; have := HH.out; omega
                · omega)
              have HBA : Hid (∀ t, t ∈ ks → blk t ≠ bm) := Lib.hid (fun t ht => by
                rcases HG.out t ht with ⟨h3, h4⟩ | h3
                · have := HBW.out.2 t h3; have := HH.out; omega
                · omega)
              have HSy := Lib.hid (HS.out.kept (cr_set (q := blk s) (i := 2) (.int .i64 ((cv : Int) + (P : Int)))) (fun e => HBN.out (Option.some.inj e).symm))
              have HCy := Lib.hid (HCh.out.set (p := ⟨blk s, 2, none⟩) (by rw [HZE.out]; exact HG.out.wr hsx) (.int .i64 ((cv : Int) + (P : Int))))
              go_upto_region 19 with (fail)
              generalize wr.setCell ⟨blk s, 2, none⟩ (.int .i64 ((cv : Int) + (P : Int))) = wy at *
              clear hlk b1 b2 e1 e2 hbl HCh HS HKx HK cq0 cw0 cd0 c0' c1' c2' c3' hwp hb1' hcv
              by_cases hss : hasS sn s = true
              · have HQ3 : Hid (crQ l C q ws c0 (k + 1) = ⟨⟨ks, upF ce s P, ga⟩, sn⟩) := Lib.hid (HQ2.out.trans (by
                  show (⟨⟨addK ks s, upF ce s P, if hasS sn s = true then ga else upF ga s 1⟩, if hasS sn s = true then sn else sn ++ [s]⟩ : CrQ) = _
                  rw [if_pos hss, if_pos hss, addK_has hhs]))
                go_wp2_with (at_lookup; refine wpList_lookup_seen _ rfl _ _ rfl _ _ _ rfl HSy.out _ rfl hsm true hss ?_)
                go_roundw
                case rel => exact ⟨k + 1, n1, ns, blk, by omega, by go_num, by omega, by omega, by rw [HQ3.out]; exact HA1.out, by rw [HQ3.out]; exact HSy.out, by rw [HQ3.out]; exact HG.out, HCy.out⟩
                case measure => simp [intOf]; omega
              · have hss' : hasS sn s = false := by simpa using hss
                have HQ3 : Hid (crQ l C q ws c0 (k + 1) = ⟨⟨ks, upF ce s P, upF ga s 1⟩, sn ++ [s]⟩) := Lib.hid (HQ2.out.trans (by
                  show (⟨⟨addK ks s, upF ce s P, if hasS sn s = true then ga else upF ga s 1⟩, if hasS sn s = true then sn else sn ++ [s]⟩ : CrQ) = _
                  rw [if_neg hss, if_neg hss, addK_has hhs]))
                go_wp2_with (first | (at_lookup; refine wpList_lookup_seen _ rfl _ _ rfl _ _ _ rfl HSy.out _ rfl hsm false hss' ?_) | (at_mapUpdate; refine wpList_update_seen _ rfl _ _ _ rfl _ _ _ rfl HSy.out (by unfold maxLen; omega) _ rfl rfl hsm ?_))
                intro w7 hS7 g7
                have HS7 := Lib.hid hS7
                have HA7 := Lib.hid (HA1.out.grown g7 (fun e => by have := Option.some.inj e; have := HBW.out.1; have := HH.out; omega) (fun t ht e => HBA.out t ht (Option.some.inj e).symm))
                have HC7 := Lib.hid (HCy.out.trans (Chg.of_grown (B := CrW2 b bm c0 blk0) g7 (fun i hi => .inl (Option.some.inj hi).symm)) (fun i hi => .inl hi))
                have B0 := HA7.out.box s hsx
                have b1 := B0.cell 1 _ rfl
                have e1 := B0.free 1
                have hbl := B0.lt
                clear B0 hS7 g7 HA1 HSy HCy
                simp only [hgv] at b1
                have HA9 := Lib.hid (HA7.out.cnt hsx)
                simp only [hgv] at HA9
                rw [show ((gv + 1 : Nat) : Int) = (gv : Int) + 1 from rfl] at HA9
                have HS9 := Lib.hid (HS7.out.kept (cr_set (q := blk s) (i := 1) (.int .i64 ((gv : Int) + 1))) (fun e => HBN.out (Option.some.inj e).symm))
                have HC9 := Lib.hid (HC7.out.set (p := ⟨blk s, 1, none⟩) (by rw [HZE.out]; exact HG.out.wr hsx) (.int .i64 ((gv : Int) + 1)))
                clear HA7 HS7 HC7
                go_wp2_with fail
                go_roundw
                case rel => exact ⟨k + 1, n1, ns + 1, blk, by omega, by go_num, by omega, by omega, by rw [HQ3.out]; exact HA9.out, by rw [HQ3.out]; exact HS9.out, by rw [HQ3.out]; exact HG.out, HC9.out⟩
                case measure => simp [intOf]; omega
              --@end
            · --@b2
              have hhs' : hasS ks s = false := by simpa using hhs
              rw [show ptF ks blk s = _ from CrO.no (c := ⟨ks, ce, ga⟩) hhs'] at hlk
              obtain ⟨q1, hq1⟩ : ∃ z, wr.heap.size = z := ⟨_, rfl⟩
              have hlo1 : lo ≤ q1 := by have := HK.out.lob; have := HK.out.map.lt; omega
              have hZ1 : Z ≤ q1 := by have := HCh.out.size; have := HZE.out; omega
              have HVa := Lib.hid (HK.out.map.alloc (.cells #[.string s, .int .i64 0, .int .i64 0] 58))
              have HCa := Lib.hid (HCh.out.alloc (.cells #[.string s, .int .i64 0, .int .i64 0] 58))
              have HSa := Lib.hid (HS.out.alloc (.cells #[.string s, .int .i64 0, .int .i64 0] 58))
              have HNW := Lib.hid (fun w2 hv g2 => HK.out.new (w2 := w2) hhs' hq1 hlo1 hv g2)
              have hn9 : n1 < maxLen := by unfold maxLen; omega
              have hbb : b ≠ bm := by have := HBW.out.1; have := HH.out; omega
              go_upto_region 17 with (fail)
              try rw [hq1]
              generalize wr.alloc (.cells #[.string s, .int .i64 0, .int .i64 0] 58) = wa at *
              clear hlk cq0 cw0 cd0 c0' c1' c2' c3' HCh HS HK hq1
              go_wp2_with (at_mapUpdate; refine wpList_update_vm _ rfl _ _ _ 106 110 rfl Tryz.underlying106 (.pointer none) b n1 ks (ptF ks blk) rfl HVa.out hn9 s (.pointer (some ⟨q1, 0, none⟩)) rfl rfl hsm ?_)
              intro w6 hv6 g6
              obtain ⟨blk1, hblk1⟩ : ∃ z, (fun x => if sameS s x = true then q1 else blk x) = z := ⟨_, rfl⟩
              have HKx := Lib.hid (HNW.out w6 hv6 g6)
              have HG1 := Lib.hid (HG.out.new s hhs' hZ1)
              rw [hblk1] at HKx HG1
              have hqb : q1 = blk1 s := by rw [← hblk1]; exact (if_pos (sameS_eq.2 rfl)).symm
              have HS := Lib.hid (HSa.out.kept g6 (fun e => hbb (Option.some.inj e).symm))
              have HCh := Lib.hid (HCa.out.trans (Chg.of_grown (B := CrW2 b bm c0 blk0) g6 (fun i hi => .inr (.inl (Option.some.inj hi).symm))) (fun i hi => .inl hi))
              have hsx : s ∈ addK ks s := addK_mem.2 (Or.inr rfl)
              clear hblk1 HNW HVa HCa HSa hv6 g6 HG
              have HG := Lib.hid HG1.out
              clear HG1
              clear hlo1 hZ1
              subst hqb
              have B0 := HKx.out.box s hsx
              have b1 := B0.cell 1 _ rfl
              have b2 := B0.cell 2 _ rfl
              have e1 := B0.free 1
              have e2 := B0.free 2
              have hbl := B0.lt
              clear B0
              obtain ⟨cv, hcv⟩ : ∃ z, ce s = z := ⟨_, rfl⟩
              obtain ⟨gv, hgv⟩ : ∃ z, ga s = z := ⟨_, rfl⟩
              have HA1 := Lib.hid (HKx.out.add hsx P)
              simp only [hcv] at HA1 b2 hb1'
              simp only [hgv] at b1 hb2'
              rw [show ((cv + P : Nat) : Int) = (cv : Int) + (P : Int) from rfl] at HA1
              have hwp : IntKind.i64.wrap ((cv : Int) + (P : Int)) = ((cv + P : Nat) : Int) := by rw [IntKind.wrap_i64]; omega
              have hwg : IntKind.i64.wrap ((gv : Int) + 1) = ((gv + 1 : Nat) : Int) := by rw [IntKind.wrap_i64]; omega
              have HBN : Hid (blk1 s ≠ bm) := Lib.hid (by
                rcases HG.out s hsx with ⟨h3, h4⟩ | h3
                · have := HBW.out.2 s h3; have := HH.out; omega
                · omega)
              have HBA : Hid (∀ t, t ∈ addK ks s → blk1 t ≠ bm) := Lib.hid (fun t ht => by
                rcases HG.out t ht with ⟨h3, h4⟩ | h3
                · have := HBW.out.2 t h3; have := HH.out; omega
                · omega)
              have HSy := Lib.hid (HS.out.kept (cr_set (q := blk1 s) (i := 2) (.int .i64 ((cv : Int) + (P : Int)))) (fun e => HBN.out (Option.some.inj e).symm))
              have HCy := Lib.hid (HCh.out.set (p := ⟨blk1 s, 2, none⟩) (by rw [HZE.out]; exact HG.out.wr hsx) (.int .i64 ((cv : Int) + (P : Int))))
              go_upto_region 19 with (fail)
              generalize w6.setCell ⟨blk1 s, 2, none⟩ (.int .i64 ((cv : Int) + (P : Int))) = wy at *
              clear b1 b2 e1 e2 hbl HCh HS HKx hwp hb1' hcv
              by_cases hss : hasS sn s = true
              · have HQ3 : Hid (crQ l C q ws c0 (k + 1) = ⟨⟨addK ks s, upF ce s P, ga⟩, sn⟩) := Lib.hid (HQ2.out.trans (by
                  show (⟨⟨addK ks s, upF ce s P, if hasS sn s = true then ga else upF ga s 1⟩, if hasS sn s = true then sn else sn ++ [s]⟩ : CrQ) = _
                  rw [if_pos hss, if_pos hss]))
                go_wp2_with (at_lookup; refine wpList_lookup_seen _ rfl _ _ rfl _ _ _ rfl HSy.out _ rfl hsm true hss ?_)
                go_roundw
                case rel => exact ⟨k + 1, n1 + 1, ns, blk1, by omega, by go_num, by omega, by omega, by rw [HQ3.out]; exact HA1.out, by rw [HQ3.out]; exact HSy.out, by rw [HQ3.out]; exact HG.out, HCy.out⟩
                case measure => simp [intOf]; omega
              · have hss' : hasS sn s = false := by simpa using hss
                have HQ3 : Hid (crQ l C q ws c0 (k + 1) = ⟨⟨addK ks s, upF ce s P, upF ga s 1⟩, sn ++ [s]⟩) := Lib.hid (HQ2.out.trans (by
                  show (⟨⟨addK ks s, upF ce s P, if hasS sn s = true then ga else upF ga s 1⟩, if hasS sn s = true then sn else sn ++ [s]⟩ : CrQ) = _
                  rw [if_neg hss, if_neg hss]))
                go_wp2_with (first | (at_lookup; refine wpList_lookup_seen _ rfl _ _ rfl _ _ _ rfl HSy.out _ rfl hsm false hss' ?_) | (at_mapUpdate; refine wpList_update_seen _ rfl _ _ _ rfl _ _ _ rfl HSy.out (by unfold maxLen; omega) _ rfl rfl hsm ?_))
                intro w7 hS7 g7
                have HS7 := Lib.hid hS7
                have HA7 := Lib.hid (HA1.out.grown g7 (fun e => by have := Option.some.inj e; have := HBW.out.1; have := HH.out; omega) (fun t ht e => HBA.out t ht (Option.some.inj e).symm))
                have HC7 := Lib.hid (HCy.out.trans (Chg.of_grown (B := CrW2 b bm c0 blk0) g7 (fun i hi => .inl (Option.some.inj hi).symm)) (fun i hi => .inl hi))
                have B0 := HA7.out.box s hsx
                have b1 := B0.cell 1 _ rfl
                have e1 := B0.free 1
                have hbl := B0.lt
                clear B0 hS7 g7 HA1 HSy HCy
                simp only [hgv] at b1
                have HA9 := Lib.hid (HA7.out.cnt hsx)
                simp only [hgv] at HA9
                rw [show ((gv + 1 : Nat) : Int) = (gv : Int) + 1 from rfl] at HA9
                have HS9 := Lib.hid (HS7.out.kept (cr_set (q := blk1 s) (i := 1) (.int .i64 ((gv : Int) + 1))) (fun e => HBN.out (Option.some.inj e).symm))
                have HC9 := Lib.hid (HC7.out.set (p := ⟨blk1 s, 1, none⟩) (by rw [HZE.out]; exact HG.out.wr hsx) (.int .i64 ((gv : Int) + 1)))
                clear HA7 HS7 HC7
                go_wp2_with fail
                go_roundw
                case rel => exact ⟨k + 1, n1 + 1, ns + 1, blk1, by omega, by go_num, by omega, by omega, by rw [HQ3.out]; exact HA9.out, by rw [HQ3.out]; exact HS9.out, by rw [HQ3.out]; exact HG.out, HC9.out⟩
                case measure => simp [intOf]; omega
              --@end
        · obtain rfl : nq = k := by omega
          have HR1 : Hid (Chg w wr (CrW b c0 blk0)) := Lib.hid (HB2C.out.trans HCh.out (fun i hi => by
            rcases hi with h | h
            · exact .inr (by have := HH.out; omega)
            · exact .inl h))
          have HR2 : Hid (BlkI c0 blk0 w.heap.size (crQ l C q ws c0 nq).c.keys blk) := Lib.hid (fun s hs => (HG.out s hs).imp id (fun h => Nat.le_trans hHZ h))
          go_wp2_with fail
          (try simp only [Exit.inBlock, Exit.then])
          refine bodyPost_end (results_none rfl _ _ _) rfl ?_
          refine ⟨rfl, n1, blk, hn1', ?_⟩
          rw [HFIN.out]
          exact ⟨HK.out, HR1.out, HR2.out⟩
end Go.Proofs.YtgdagknjnidmiaaGreatDoor
