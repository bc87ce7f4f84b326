/- Lines that an offer's cuts are taken from; offer.pricer's apply (printed by gen_apply.py). -/
import Derived.Test.YtdefjnefkdemiaaGreatDoorFree
import Derived.Test.YtdefjnefkdemiaaGreatDoorM2
import Derived.Test.YtdefjnefkdemiaaGreatDoorM1
set_option linter.unusedVariables false
namespace Go.Proofs.YtdefjnefkdemiaaGreatDoor
open Go.RowKit Go.Sort

def natV (l : List Nat) : List Value := (l.map fun (z : Nat) => (z : Int)).map (Value.int .i64)
theorem natV_len (l : List Nat) : (natV l).length = l.length := by simp [natV]
theorem natV_get (l : List Nat) (k : Nat) (h : k < l.length) : (natV l)[k]? = some (.int .i64 (l[k] : Int)) := by simp [natV, h]
theorem natV_set (l : List Nat) (k z : Nat) : (natV l).set k (.int .i64 (z : Int)) = natV (l.set k z) := by simp [natV]
/-- the lines when the first k cuts have been taken -/
def midL (left cut : List Nat) (k : Nat) : List Nat := (List.range left.length).map fun j => left.getD j 0 - if j < k then cut.getD j 0 else 0
theorem midL_len (left cut : List Nat) (k : Nat) : (midL left cut k).length = left.length := by simp [midL]
theorem range_getD (l : List Nat) : ((List.range l.length).map fun j => l.getD j 0) = l := by
  apply List.ext_getElem
  · simp
  · intro i h1 h2
    simp [List.getElem?_eq_getElem h2]
theorem midL_zero (left cut : List Nat) : midL left cut 0 = left := by
  unfold midL
  simp only [Nat.not_lt_zero, if_false, Nat.sub_zero]
  exact range_getD left
theorem midL_all (left cut : List Nat) (h : cut.length = left.length) : midL left cut left.length = subL left cut := by
  unfold midL subL
  apply List.map_congr_left
  intro j hj
  rw [if_pos (by simpa using hj)]
theorem midL_get (left cut : List Nat) (k j : Nat) (h : j < left.length) (h2 : k ≤ j) : (midL left cut k)[j]'(by rw [midL_len]; exact h) = left[j] := by
  simp only [midL, List.getElem_map, List.getElem_range]
  rw [if_neg (by omega), Nat.sub_zero, getD_lt _ _ h]
theorem midL_set (left cut : List Nat) (k : Nat) (h : k < left.length) (h2 : k < cut.length) : (midL left cut k).set k (left[k] - cut[k]) = midL left cut (k + 1) := by
  apply List.ext_getElem
  · simp [midL]
  · intro i h3 h4
    have hi : i < left.length := by simpa [midL] using h4
    rw [List.getElem_set]
    simp only [midL, List.getElem_map, List.getElem_range]
    by_cases e : k = i
    · subst e
      rw [if_pos rfl, if_pos (by omega), getD_lt _ _ h, getD_lt _ _ h2]
    · rw [if_neg e]
      by_cases h5 : i < k
      · rw [if_pos h5, if_pos (by omega)]
      · rw [if_neg h5, if_neg (by omega)]
theorem subL_zero (left : List Nat) (n : Nat) : subL left (List.replicate n 0) = left := by
  unfold subL
  have : (fun j => left.getD j 0 - (List.replicate n 0).getD j 0) = fun j => left.getD j 0 := by
    funext j
    rw [show (List.replicate n 0).getD j 0 = 0 by simp only [List.getD_eq_getElem?_getD, List.getElem?_replicate]; split <;> rfl]
    rfl
  rw [this]
  exact range_getD left
/-- the cuts from the k-th on lie in memory -/
def SufAt (w : World) (a : Option Addr) (l : List Nat) (k : Nat) : Prop := ∀ j (h : j < l.length), k ≤ j → ∃ p off, a = some ⟨p, off, none⟩ ∧ p < w.heap.size ∧ w.cell? ⟨p, off + j, none⟩ = some (.int .i64 (l[j] : Int))
theorem SufAt.of {w : World} {a : Option Addr} {l : List Nat} (h : natsAt w a l) : SufAt w a l 0 := by
  intro j hj _
  have hj' : j < (l.map fun (z : Nat) => (z : Int)).length := by simpa using hj
  obtain ⟨p, off, h1, h2, h3⟩ := h j hj'
  exact ⟨p, off, h1, h2, by simpa using h3⟩
theorem SufAt.set {w : World} {a : Option Addr} {l : List Nat} {k g : Nat} (h : SufAt w a l k) (u : Value) : SufAt (w.setCell ⟨g, k, none⟩ u) a l (k + 1) := by
  intro j hj hk
  obtain ⟨p, off, h1, h2, h3⟩ := h j hj (by omega)
  refine ⟨p, off, h1, by simpa [World.setCell] using h2, ?_⟩
  rw [World.cell?_setCell_other _ _ _ _ (by intro e; injection e with _ e2; omega)]
  exact h3
theorem ofB_k4 {x : Of} (h : ofB x = true) : 1 ≤ x.kind ∧ x.kind ≤ 4 := by
  unfold ofB kindM at h
  simp only [Bool.and_eq_true, decide_eq_true_eq] at h
  obtain ⟨⟨⟨⟨⟨⟨⟨⟨h1, h2⟩, h3⟩, h4⟩, h5⟩, h6⟩, h7⟩, h8⟩, h9⟩ := h
  repeat' split at h2
  all_goals omega
theorem own_nats {w : World} {b0 n c : Nat} {a : Option Addr} {l : List Nat} {t : TypeId} (h : w.ownsRow b0 t 1 (.slice a n c) n (natV l)) : natsAt w a l := IntsAt.of_own h
theorem natV_int (l : List Nat) : ∀ u ∈ natV l, u.oneCell' = true := by
  intro u hu
  obtain ⟨z, _, rfl⟩ := List.mem_map.1 hu
  rfl
theorem cut_dec (left cut : List Nat) (h : LeL cut left) (k : Nat) (h1 : k < left.length) (h2 : k < cut.length) : cut[k] ≤ left[k] := by
  have := h.2 k
  rw [getD_lt _ _ h1, getD_lt _ _ h2] at this
  exact this
theorem sum_left (l : List Nat) (n : Nat) (hn : l.length = n) (hn1 : n < 20) (h : ∀ z ∈ l, z ≤ 1000000000) (k : Nat) : (l.take k).sum ≤ 20000000000 := by
  have h1 := sum_take_le l k
  have h2 := sum_bound _ l h
  have h3 : l.length * 1000000000 ≤ 20 * 1000000000 := Nat.mul_le_mul_right _ (by omega)
  omega

set_option maxRecDepth 100000 in
set_option maxHeartbeats 8000000 in
theorem apply_any (x : Of) (q : Nat) (ai : Option Addr) (li : List It) (n ci : Nat) (sh0 : Int) (la : Option Addr) (left : List Nat) (cl sh b0 : Nat) (tq : TypeId) (w : World)
    (hx : x.ok) (hxb : ofB x = true) (hxt : StrsAt w x.tv x.tags) (hQ : OB w q [.slice ai n ci, .int .i64 sh0, .slice la n cl, .int .i64 (sh : Nat)] tq) (hO : w.ownsRow b0 3 1 (.slice la n cl) n (natV left)) (hq : q < b0)
    (hni : li.length = n) (hn : left.length = n) (hn1 : n < 20) (hI : RAt w ai 4 It.cells li) (hTG : TagsAt It.tv It.tags w li) (hok : ∀ y ∈ li, y.ok) (hit : ∀ y ∈ li, itB y = true) (hb : ∀ z ∈ left, z ≤ 1000000000) (hs : sh ≤ 1000000000000) :
    Calls Tryz.prog 57 #[.pointer (some ⟨q, 0, none⟩), .agg x.cells.toArray] w fun e w' => e = .returned (.int .i64 (((cutN x li left).sum + shN x sh : Nat) : Int)) ∧ OB w' q [.slice ai n ci, .int .i64 sh0, .slice la n cl, .int .i64 ((sh - shN x sh : Nat) : Int)] tq ∧ w'.ownsRow b0 3 1 (.slice la n cl) n (natV (subL left (cutN x li left))) ∧ Chg w w' (fun i => i = q ∨ (Value.slice la n cl).ownBlock = some i) := by
  have HN := Lib.hid hn
  have HBL := Lib.hid hb
  have HLE := Lib.hid (cutN_le x li left hxb)
  obtain ⟨kd1, kd4⟩ := ofB_k4 hxb
  obtain ⟨a0, a1, -, -, m0, m1⟩ := ofB_kd hxb
  have HC1 := Lib.hid (fun (h : x.kind = 1) (w' : World) (hbl : Below w.heap.size w w') (hQ' : XB w' q [.slice ai n ci, .int .i64 sh0, .slice la n cl, .int .i64 (sh : Nat)]) (hL' : natsAt w' la left) => percents_any x q ai li n ci sh0 la left cl sh w' hx hxb h (hxt.below hbl) hQ' hni hn hn1 (hI.below hbl) (hTG.below hbl) hok hL' hb)
  have HC2 := Lib.hid (fun (h : x.kind = 2) (w' : World) (hbl : Below w.heap.size w w') (hQ' : XB w' q [.slice ai n ci, .int .i64 sh0, .slice la n cl, .int .i64 (sh : Nat)]) (hL' : natsAt w' la left) => amount_any x q ai li n ci sh0 la left cl sh w' hx hxb h (hxt.below hbl) hQ' hni hn hn1 (hI.below hbl) (hTG.below hbl) hok hL' hb)
  have HC3 := Lib.hid (fun (h : x.kind = 3) (w' : World) (hbl : Below w.heap.size w w') (hQ' : XB w' q [.slice ai n ci, .int .i64 sh0, .slice la n cl, .int .i64 (sh : Nat)]) (hL' : natsAt w' la left) => free_any x q ai li n ci sh0 la left cl sh w' hx hxb h (hxt.below hbl) hQ' hni hn hn1 (hI.below hbl) (hTG.below hbl) hok hit hL' hb)
  have HV1 : Hid (x.kind = 1 → mostN (percN x li left) x.most.toNat = cutN x li left) := Lib.hid (fun h => by unfold cutN; rw [if_pos h])
  have HV2 : Hid (x.kind = 2 → amtN x li left = cutN x li left) := Lib.hid (fun h => by unfold cutN; rw [if_neg (by omega), if_pos h])
  have HV3 : Hid (x.kind = 3 → mostN (freeN x li left) x.most.toNat = cutN x li left) := Lib.hid (fun h => by unfold cutN; rw [if_neg (by omega), if_neg (by omega), if_pos h])
  have HV4 : Hid (x.kind = 4 → cutN x li left = List.replicate left.length 0) := Lib.hid (fun h => by unfold cutN; rw [if_neg (by omega), if_neg (by omega), if_neg (by omega)])
  have HS4 : Hid (x.kind = 4 → shN x sh = capN x.most.toNat (min x.a.toNat sh)) := Lib.hid (fun h => by unfold shN; rw [if_pos h])
  have HS0 : Hid (x.kind ≠ 4 → shN x sh = 0) := Lib.hid (fun h => by unfold shN; rw [if_neg h])
  have HSL := Lib.hid (shN_le x sh)
  obtain ⟨k0, kd, ia, ib, tv, tc, tags, le, mo, gr, al, od, fr, t2⟩ := x
  simp only at HC1 HC2 HC3 HV1 HV2 HV3 HV4 HS4 HS0 HSL HLE kd1 kd4 a0 a1 m0 m1 ⊢
  obtain ⟨A, rfl⟩ : ∃ A : Nat, ia = A := ⟨ia.toNat, by omega⟩
  obtain ⟨M, rfl⟩ : ∃ M : Nat, mo = M := ⟨mo.toNat, by omega⟩
  simp only [Int.toNat_natCast] at HC1 HC3 HV1 HV3 HS4
  rw [show (Of.cells ⟨k0, kd, A, ib, tv, tc, tags, le, M, gr, al, od, fr, t2⟩).toArray = #[.string k0, .int .i64 kd, .int .i64 (A : Nat), .int .i64 ib, .slice tv tags.length tc, .int .i64 le, .int .i64 (M : Nat), .string gr, .bool al, .int .i64 od, .int .i64 fr, .int .i64 t2] from rfl]
  rw [show (Of.cells ⟨k0, kd, A, ib, tv, tc, tags, le, M, gr, al, od, fr, t2⟩).toArray = #[.string k0, .int .i64 kd, .int .i64 (A : Nat), .int .i64 ib, .slice tv tags.length tc, .int .i64 le, .int .i64 (M : Nat), .string gr, .bool al, .int .i64 od, .int .i64 fr, .int .i64 t2] from rfl] at HC1 HC2 HC3
  obtain ⟨cut, hcut⟩ : ∃ c, cutN ⟨k0, kd, A, ib, tv, tc, tags, le, M, gr, al, od, fr, t2⟩ li left = c := ⟨_, rfl⟩
  rw [hcut] at HV1 HV2 HV3 HV4 HLE ⊢
  obtain ⟨S, hS⟩ : ∃ c, shN ⟨k0, kd, A, ib, tv, tc, tags, le, M, gr, al, od, fr, t2⟩ sh = c := ⟨_, rfl⟩
  rw [hS] at HS4 HS0 HSL ⊢
  have HX0 := Lib.hid (XB.new w [.string k0, .int .i64 kd, .int .i64 (A : Nat), .int .i64 ib, .slice tv tags.length tc, .int .i64 le, .int .i64 (M : Nat), .string gr, .bool al, .int .i64 od, .int .i64 fr, .int .i64 t2] 37)
  have HB0 := Lib.hid ((Below.refl w.heap.size w).alloc (Nat.le_refl _) (.cells #[.string k0, .int .i64 kd, .int .i64 (A : Nat), .int .i64 ib, .slice tv tags.length tc, .int .i64 le, .int .i64 (M : Nat), .string gr, .bool al, .int .i64 od, .int .i64 fr, .int .i64 t2] 37))
  have HQ0 := Lib.hid (hQ.alloc (.cells #[.string k0, .int .i64 kd, .int .i64 (A : Nat), .int .i64 ib, .slice tv tags.length tc, .int .i64 le, .int .i64 (M : Nat), .string gr, .bool al, .int .i64 od, .int .i64 fr, .int .i64 t2] 37))
  have HO0 := Lib.hid (own_below hO ((Below.refl _ _).alloc (Nat.le_refl _) (.cells #[.string k0, .int .i64 kd, .int .i64 (A : Nat), .int .i64 ib, .slice tv tags.length tc, .int .i64 le, .int .i64 (M : Nat), .string gr, .bool al, .int .i64 od, .int .i64 fr, .int .i64 t2] 37)))
  have hqw := hQ.lt
  simp only [List.toArray] at HX0
  have hz : (w.alloc (.cells #[.string k0, .int .i64 kd, .int .i64 (A : Nat), .int .i64 ib, .slice tv tags.length tc, .int .i64 le, .int .i64 (M : Nat), .string gr, .bool al, .int .i64 od, .int .i64 fr, .int .i64 t2] 37)).heap.size = w.heap.size + 1 := by simp
  clear hni hn hI hTG hok hb hx hxt hQ hO hit hxb hcut hS
  go_enter Tryz.func57, Tryz.ntmps57
  go_upto_region 1 with (fail)
  generalize (w.alloc (.cells #[.string k0, .int .i64 kd, .int .i64 (A : Nat), .int .i64 ib, .slice tv tags.length tc, .int .i64 le, .int .i64 (M : Nat), .string gr, .bool al, .int .i64 od, .int .i64 fr, .int .i64 t2] 37)) = w1 at *
  obtain ⟨x0, x1, x2, x3, x4, x5, x6, x7, x8, x9, x10, x11⟩ := HX0.out.at12
  have hxl := HX0.out.1
  by_cases h4 : kd = 4
  · have HSS := Lib.hid (HS4.out h4)
    have HCC := Lib.hid (HV4.out h4)
    subst h4
    obtain ⟨T, hT⟩ : ∃ T, min A sh = T := ⟨_, rfl⟩
    have hTT : min (A : Int) (sh : Int) = (T : Int) := by omega
    have hT9 : T ≤ sh := by omega
    rw [hT] at HSS
    have z3 := HQ0.out.cell 3 _ rfl
    have f3 := HQ0.out.free 3
    have hql := HQ0.out.lt
    clear hT HC1 HC2 HC3 HV1 HV2 HV3 HS4 HS0
    go_wp2_with fail
    go_quiet (fail)
    generalize hwq : (World.drewN w1 _) = w2 at *
    have HX2 := Lib.hid (show XB w2 w.heap.size [.string k0, .int .i64 4, .int .i64 (A : Nat), .int .i64 ib, .slice tv tags.length tc, .int .i64 le, .int .i64 (M : Nat), .string gr, .bool al, .int .i64 od, .int .i64 fr, .int .i64 t2] from hwq ▸ HX0.out.drewN _)
    have HQ2 := Lib.hid (show OB w2 q [.slice ai n ci, .int .i64 sh0, .slice la n cl, .int .i64 (sh : Nat)] tq from hwq ▸ HQ0.out.drewN _)
    have HB2 := Lib.hid (show Below w.heap.size w w2 from hwq ▸ below_drewN HB0.out _)
    have HO2 := Lib.hid (show w2.ownsRow b0 3 1 (.slice la n cl) n (natV left) from hwq ▸ HO0.out)
    clear hwq HX0 HQ0 HB0 HO0 x0 x1 x2 x3 x4 x5 x6 x7 x8 x9 x10 x11 hxl z3 f3 hql hz
    obtain ⟨x0, x1, x2, x3, x4, x5, x6, x7, x8, x9, x10, x11⟩ := HX2.out.at12
    have hxl := HX2.out.1
    go_upto_if 21 with (fail)
    go_cut [6] (fun u wx => u = .int .i64 (capN M T : Nat) ∧ w2 = wx)
    case first =>
      by_cases hM0 : M = 0
      · subst hM0
        have hc : capN 0 T = T := by unfold capN; rw [if_pos rfl]
        go_wp2_with fail
        go_meet
        exact ⟨by rw [hc], rfl⟩
      · have e0 : ((M : Int) == 0) = false := by simp; omega
        have e1 : ((M : Int) != 0) = true := by simp; omega
        have hc : ((capN M T : Nat) : Int) = min (T : Int) (M : Int) := by unfold capN; rw [if_neg hM0]; omega
        go_wp2_with fail
        go_meet
        exact ⟨by rw [hc], rfl⟩
    case rest =>
    obtain ⟨rfl, rfl⟩ := hcut
    have hcn := capN_le M T
    have hSv : capN M T = S := HSS.out.symm
    rw [hSv] at hcn ⊢
    have z3 := HQ2.out.cell 3 _ rfl
    have f3 := HQ2.out.free 3
    have hql := HQ2.out.lt
    have hsub : (sh : Int) - (S : Int) = ((sh - S : Nat) : Int) := by omega
    have HQS := Lib.hid (HQ2.out.put (cs' := [.slice ai n ci, .int .i64 sh0, .slice la n cl, .int .i64 ((sh - S : Nat) : Int)]) 3 (.int .i64 ((sh - S : Nat) : Int)) rfl)
    have HOS : Hid ((w2.setCell ⟨q, 3, none⟩ (.int .i64 ((sh - S : Nat) : Int))).ownsRow b0 3 1 (.slice la n cl) n (natV (subL left cut))) := Lib.hid (by
      rw [HCC.out, subL_zero]
      refine HO2.out.kept (grown_set (grown_same w2 (some q)) (p := ⟨q, 3, none⟩) (.inl rfl) _) ?_
      cases hv : (Value.slice la n cl).ownBlock with
      | none => exact .inl rfl
      | some b =>
        refine .inr fun e => ?_
        injection e with e
        have := (HO2.out.lt b hv).1
        omega)
    have HCG : Hid (Chg w (w2.setCell ⟨q, 3, none⟩ (.int .i64 ((sh - S : Nat) : Int))) (fun i => i = q ∨ (Value.slice la n cl).ownBlock = some i)) := Lib.hid ((Chg.of_below HB2.out _).set (.inl (.inl rfl)) _)
    have HVL : Hid (((cut.sum + S : Nat) : Int) = (S : Int)) := Lib.hid (by rw [HCC.out]; simp)
    clear HSS HCC hSv HX2 HQ2 HB2 HO2
    go_wp2_with fail
    go_ret
    exact ⟨ret_int HVL.out.symm, HQS.out, HOS.out, HCG.out⟩
  · have HSZ := Lib.hid (HS0.out h4)
    have HQx := Lib.hid HQ0.out.xb
    have HL0 := Lib.hid (own_nats HO0.out)
    have hqs : q < w1.heap.size := HQ0.out.lt
    clear HV4 HS4 HS0
    go_upto_block 0 with (fail)
    go_cut [5] (fun u wx => ∃ a' c', u = .slice a' n c' ∧ natsAt wx a' cut ∧ Below w1.heap.size w1 wx)
    case first =>
      have hk3 : kd = 1 ∨ kd = 2 ∨ kd = 3 := by omega
      rcases hk3 with rfl | rfl | rfl
      · have C := Lib.hid (HC1.out rfl w1 HB0.out HQx.out HL0.out)
        have HV := Lib.hid (HV1.out rfl)
        clear HC1 HC2 HC3 HV1 HV2 HV3
        go_wp2_with fail
        with_reducible refine C.out.mono ?_
        rintro e w2 ⟨a', c', rfl, hi2, b2⟩
        rw [HV.out] at hi2
        have HI2 := Lib.hid hi2
        have HB2 := Lib.hid b2
        clear hi2 b2 C
        go_wp2_with fail
        go_meet
        exact ⟨_, _, rfl, HI2.out, HB2.out⟩
      · have C := Lib.hid (HC2.out rfl w1 HB0.out HQx.out HL0.out)
        have HV := Lib.hid (HV2.out rfl)
        clear HC1 HC2 HC3 HV1 HV2 HV3
        go_wp2_with fail
        with_reducible refine C.out.mono ?_
        rintro e w2 ⟨a', c', rfl, hi2, b2⟩
        rw [HV.out] at hi2
        have HI2 := Lib.hid hi2
        have HB2 := Lib.hid b2
        clear hi2 b2 C
        go_wp2_with fail
        go_meet
        exact ⟨_, _, rfl, HI2.out, HB2.out⟩
      · have C := Lib.hid (HC3.out rfl w1 HB0.out HQx.out HL0.out)
        have HV := Lib.hid (HV3.out rfl)
        clear HC1 HC2 HC3 HV1 HV2 HV3
        go_wp2_with fail
        with_reducible refine C.out.mono ?_
        rintro e w2 ⟨a', c', rfl, hi2, b2⟩
        rw [HV.out] at hi2
        have HI2 := Lib.hid hi2
        have HB2 := Lib.hid b2
        clear hi2 b2 C
        go_wp2_with fail
        go_meet
        exact ⟨_, _, rfl, HI2.out, HB2.out⟩
    case rest =>
    obtain ⟨a', c', rfl, hI2, hB2⟩ := hcut
    have HS2 := Lib.hid (SufAt.of hI2)
    have HQ2 := Lib.hid (HQ0.out.below hB2)
    have HO2 := Lib.hid (own_below HO0.out hB2)
    have HG2 := Lib.hid (Chg.of_below (HB0.out.trans (hB2.mono HB0.out.size)) (fun i => i = q ∨ (Value.slice la n cl).ownBlock = some i))
    have HCL := Lib.hid (HLE.out.1.trans HN.out)
    have HCB : Hid (∀ z ∈ cut, z ≤ 1000000000) := Lib.hid (fun z hz => by
      obtain ⟨j, hj, rfl⟩ := List.mem_iff_getElem.1 hz
      have hj2 : j < left.length := by rw [← HLE.out.1]; exact hj
      exact Nat.le_trans (cut_dec left cut HLE.out j hj2 hj) (HBL.out _ (List.getElem_mem hj2)))
    clear hI2 hB2 HQ0 HO0 HB0 HX0 HQx HL0 HC1 HC2 HC3 HV1 HV2 HV3 x0 x1 x2 x3 x4 x5 x6 x7 x8 x9 x10 x11 hxl hqs hz h4
    go_wp2_with fail
    go_loopw [7, 52] (fun a7 i wr => ∃ k : Nat, k ≤ n ∧ i = .int .i64 k ∧ a7 = .int .i64 ((cut.take k).sum : Nat) ∧ wr.ownsRow b0 3 1 (.slice la n cl) n (natV (midL left cut k)) ∧ SufAt wr a' cut k ∧ OB wr q [.slice ai n ci, .int .i64 sh0, .slice la n cl, .int .i64 (sh : Nat)] tq ∧ Chg w wr (fun i => i = q ∨ (Value.slice la n cl).ownBlock = some i)) (fun _ i _ => n - (intOf i).toNat)
    case atStart => exact ⟨0, Nat.zero_le _, rfl, rfl, by rw [midL_zero]; exact HO2.out, HS2.out, HQ2.out, HG2.out⟩
    case round =>
      obtain ⟨k, hk, rfl, rfl, own, hsf, hQ, hG⟩ := hrel
      have HO := Lib.hid own
      have HQ := Lib.hid hQ
      have HG := Lib.hid hG
      have HF := Lib.hid hsf
      clear HS2 HQ2 HO2 HG2 hQ hG
      by_cases hlt : k < n
      · have hkc : k < cut.length := by have := HCL.out; omega
        have hkl : k < left.length := by have := HN.out; omega
        obtain ⟨p, off, rfl, hp, hcell⟩ := hsf k hkc (Nat.le_refl _)
        obtain ⟨g, cap, hv, hbg, hgl⟩ := own.form (by omega)
        injection hv with hv1 hv2 hv3
        subst hv1 hv3
        have c0 := own.cellAt k (by omega)
        rw [natV_get _ _ (by rw [midL_len]; exact hkl), midL_get left cut k k hkl (Nat.le_refl _)] at c0
        have f0 := own.frozenAt k
        have z1 := HBL.out left[k] (List.getElem_mem hkl)
        have z2 := cut_dec left cut HLE.out k hkl hkc
        have hsum := sum_left cut n HCL.out hn1 HCB.out k
        have HSM := Lib.hid (sum_take_succ cut k hkc)
        have HMS := Lib.hid (midL_set left cut k hkl hkc)
        have hsub : (left[k] : Int) - (cut[k] : Int) = ((left[k] - cut[k] : Nat) : Int) := by omega
        have hdz : left[k] - cut[k] ≤ 1000000000 := by omega
        have HST := Lib.hid (own.stored k (.int .i64 ((left[k] - cut[k] : Nat) : Int))).1
        rw [natV_set, HMS.out] at HST
        obtain ⟨q2, -⟩ : ∃ z, z = HQ.out.cell 2 _ rfl := ⟨_, rfl⟩
        have hql := HQ.out.lt
        have hgq : g ≠ q := by omega
        clear own hsf HMS
        generalize left[k] - cut[k] = d at *
        generalize left[k] = zl at *
        generalize cut[k] = zc at *
        generalize (cut.take k).sum = sm at *
        go_wp2_with fail
        go_roundw
        case rel =>
          refine ⟨k + 1, by omega, by go_num, by rw [HSM.out]; go_num, HST.out, HF.out.set _, ?_, ?_⟩
          · exact HQ.out.grown (grown_set (grown_same _ (some g)) (p := ⟨g, k, none⟩) (.inl rfl) _) (by simp; omega)
          · exact HG.out.set (p := ⟨g, k, none⟩) (.inl (.inr rfl)) _
        case measure => simp [intOf]; omega
      · obtain rfl : k = n := by omega
        have HT : Hid (((cut.take k).sum : Int) = ((cut.sum + S : Nat) : Int)) := Lib.hid (by rw [HSZ.out, List.take_of_length_le (by have := HCL.out; omega)]; rfl)
        have HOE : Hid (wr.ownsRow b0 3 1 (.slice la k cl) k (natV (subL left cut))) := Lib.hid (by rw [← midL_all left cut HLE.out.1, HN.out]; exact HO.out)
        have HQE : Hid (OB wr q [.slice ai k ci, .int .i64 sh0, .slice la k cl, .int .i64 ((sh - S : Nat) : Int)] tq) := Lib.hid (by rw [HSZ.out]; exact HQ.out)
        clear own hsf HO HF HQ
        go_wp2_with fail
        go_ret
        exact ⟨ret_int HT.out, HQE.out, HOE.out, HG.out⟩
end Go.Proofs.YtdefjnefkdemiaaGreatDoor
