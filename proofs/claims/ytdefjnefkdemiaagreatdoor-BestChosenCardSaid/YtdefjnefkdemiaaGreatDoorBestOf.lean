/- handref1.BestOf (printed by gen_bestof.py). -/
import Derived.Test.YtdefjnefkdemiaaGreatDoorBest
import Derived.Test.YtdefjnefkdemiaaGreatDoorPriceOf
set_option linter.unusedVariables false
namespace Go.Proofs.YtdefjnefkdemiaaGreatDoor
open Go.RowKit Go.Sort

/-- the best after k masks -/
def bsRf (l : List Of) (li : List It) (ship : Int) (fit : List Nat) : Nat → BsS
  | 0 => ⟨[], ⟨[], 0, []⟩⟩
  | k + 1 => bsGo l li ship fit k
theorem bsRf_len (l : List Of) (li : List It) (sp : Int) (F : List Nat) : ∀ k, (bsRf l li sp F k).best.length ≤ F.length
  | 0 => Nat.zero_le _
  | k + 1 => bsGo_len l li sp F k
theorem bsRf_step (l : List Of) (li : List It) (sp : Int) (F : List Nat) (nf k : Nat) (hn : F.length = nf) :
    bsRf l li sp F (k + 1) = if togB (selO l (selI F k nf)) = true then (if k = 0 ∨ btV (prOf li sp (selO l (selI F k nf))) (selI F k nf) (bsRf l li sp F k) < 0 then ⟨selI F k nf, prOf li sp (selO l (selI F k nf))⟩ else bsRf l li sp F k) else bsRf l li sp F k := by
  subst hn
  cases k with
  | zero =>
    rw [selI_zero]
    rw [if_pos (show togB (selO l []) = true from togB_nil), if_pos (Or.inl rfl)]
    rfl
  | succ k =>
    show bsStep l li sp F (bsGo l li sp F k) (k + 1) = _
    unfold bsStep
    congr 1
    congr 1
    rw [eq_iff_iff]
    exact ⟨fun h => Or.inr h, fun h => h.resolve_left (by omega)⟩

set_option maxRecDepth 100000 in
set_option maxHeartbeats 16000000 in
theorem BestOf_any (a : Option Addr) (l : List Of) (n c : Nat) (ai : Option Addr) (li : List It) (ni ci : Nat) (ship t : Int) (w : World) (hn : l.length = n) (hn1 : n ≤ 13) (hc : n ≤ c) (hc' : c ≤ maxLen) (hI : RAt w a 12 Of.cells l) (hTG : TagsAt Of.tv Of.tags w l) (hok : ∀ x ∈ l, x.ok)
    (hni : li.length = ni) (hni1 : ni < 20) (hci : ni ≤ ci) (hci' : ci ≤ maxLen) (hIi : RAt w ai 4 It.cells li) (hTi : TagsAt It.tv It.tags w li) (hoki : ∀ y ∈ li, y.ok) :
    Calls Tryz.prog 19 #[.slice a n c, .agg #[.slice ai ni ci, .int .i64 ship], .int .i64 t] w fun e w' => ∃ v u, e = .returned (.tuple #[v, u, .int .i64 (bsE l li ship t)]) ∧ BsAt w' 0 v u (bsR l li ship t) ∧ Below w.heap.size w w' := by
  obtain ⟨i0, hi, hz0, hz1, hz2⟩ := info_parts infoP_int
  obtain ⟨j0, hj0, hy0, hy1, hy2⟩ := info_parts infoOf2
  have C1 := Lib.hid (fun w' (hb : Below w.heap.size w w') => OffersFault_any a l n c w' hn (by omega) hc hc' (hI.below hb) (hTG.below hb) hok)
  have C2 := Lib.hid (fun w' (hb : Below w.heap.size w w') => BasketFault_any ai li ni ci ship w' hni (by omega) hci hci' (hIi.below hb) (hTi.below hb) hoki)
  have CM := Lib.hid (rMoment_any t)
  have HOR := Lib.hid (fun (w' : World) => orErr_any w'.heap.size [ofE l, bkE li ship] 2 2 43 (w'.alloc (.cells #[.int .i64 (ofE l), .int .i64 (bkE li ship)] 43)) rfl (by omega) (heap_alloc_new _ _))
  have HOC := Lib.hid (orE_chk (ofE l) (bkE li ship) (wB t 0 4321439))
  have HOF := Lib.hid (fun (h0 : chkV (ofE l) (bkE li ship) (wB t 0 4321439) = 0) => And.intro (ofE_ok (chkV_0 h0).1) (And.intro (bkE_its (chkV_0 h0).2.1) (bkE_ship (chkV_0 h0).2.1)))
  have HLO := Lib.hid (And.intro hn (And.intro hI (And.intro hTG hok)))
  have HLI := Lib.hid (And.intro hni (And.intro hIi (And.intro hTi hoki)))
  obtain ⟨E, hE⟩ : ∃ E, bsE l li ship t = E := ⟨_, rfl⟩
  obtain ⟨SR, hSR⟩ : ∃ s, bsR l li ship t = s := ⟨_, rfl⟩
  rw [hE, hSR]
  obtain ⟨V, hV⟩ : ∃ V, chkV (ofE l) (bkE li ship) (wB t 0 4321439) = V := ⟨_, rfl⟩
  obtain ⟨F, hF⟩ : ∃ F, bsFit l li ship t = F := ⟨_, rfl⟩
  have HE : Hid (E = if V = 0 then (if 10 < F.length then 2 else 0) else V) := Lib.hid (by rw [← hE, ← hV, ← hF]; rfl)
  have HSR : Hid (SR = if E = 0 then bsGo l li ship F (2 ^ F.length - 1) else ⟨[], ⟨[], 0, []⟩⟩) := Lib.hid (by rw [← hSR, ← hE, ← hF]; rfl)
  have HSUB := Lib.hid (fun (o : List Of) (hs : o.Sublist l) => prE_sel l o li ship t hs)
  have HVV := Lib.hid hV
  have HFF := Lib.hid hF
  rw [hV] at HOC HOF
  clear hE hSR hV hF hn hI hTG hok hni hIi hTi hoki hc'
  obtain ⟨b, hb⟩ : ∃ b, wB t 0 4321439 = b := ⟨_, rfl⟩
  obtain ⟨E1, hE1⟩ : ∃ z, ofE l = z := ⟨_, rfl⟩
  obtain ⟨E2, hE2⟩ : ∃ z, bkE li ship = z := ⟨_, rfl⟩
  rw [hb] at HOC CM
  rw [hE1] at C1 HOR HOC
  rw [hE2] at C2 HOR HOC
  obtain ⟨W, hW⟩ : ∃ z, orE [E1, E2] = z := ⟨_, rfl⟩
  rw [hW] at HOR HOC
  clear hb hE1 hE2 hW
  obtain ⟨H, hH⟩ : ∃ H, w.heap.size = H := ⟨_, rfl⟩
  have HY0 := Lib.hid ((XB.new w [.slice ai ni ci, .int .i64 ship] 30).alloc (.cells #[.slice none 0 0, .int .i64 0, .slice none 0 0, .int .i64 0] 42))
  have HZ0 := Lib.hid (OB.new (w.alloc (.cells #[.slice ai ni ci, .int .i64 ship] 30)) [.slice none 0 0, .int .i64 0, .slice none 0 0, .int .i64 0] 42)
  have HB0 := Lib.hid (((Below.refl w.heap.size w).alloc (Nat.le_refl _) (.cells #[.slice ai ni ci, .int .i64 ship] 30)).alloc (by simp) (.cells #[.slice none 0 0, .int .i64 0, .slice none 0 0, .int .i64 0] 42))
  simp only [List.toArray] at HY0 HZ0
  have hz1' : (w.alloc (.cells #[.slice ai ni ci, .int .i64 ship] 30)).heap.size = w.heap.size + 1 := by simp
  obtain ⟨qz, hqz⟩ : ∃ q, H + 1 = q := ⟨_, rfl⟩
  rw [hz1', hH, hqz] at HZ0
  rw [hH] at HY0
  have HH := Lib.hid hH
  have HQR : Hid (qz = H + 1) := Lib.hid (by omega)
  clear hz1'
  go_enter Tryz.func19, Tryz.ntmps19
  go_upto_region 1 with (fail)
  generalize (w.alloc (.cells #[.slice ai ni ci, .int .i64 ship] 30)).alloc (.cells #[.slice none 0 0, .int .i64 0, .slice none 0 0, .int .i64 0] 42) = w1 at *
  clear hH hqz
  go_cut [9] (fun u wx => u = .int .i64 W ∧ XB wx H [.slice ai ni ci, .int .i64 ship] ∧ OB wx qz [.slice none 0 0, .int .i64 0, .slice none 0 0, .int .i64 0] 42 ∧ Below w.heap.size w wx)
  case first =>
    obtain ⟨y0, y1⟩ := HY0.out.at2'
    have hyl := HY0.out.1
    have HBd := Lib.hid HB0.out.drew
    have CA := Lib.hid (C1.out w1.drew HBd.out)
    go_region_with (first | (go_at_call 34; refine CA.out.mono ?_; rintro e w3 ⟨rfl, b3⟩; have HB3 := Lib.hid (HBd.out.trans (b3.mono HBd.out.size)); have HY3 := Lib.hid ((HY0.out.drewN 1).below b3); have y30 := HY3.out.2 0 _ rfl; have y31 := HY3.out.2 1 _ rfl; have hyl3 := HY3.out.1; have HZ3 := Lib.hid ((HZ0.out.drewN 1).below b3); clear b3) | (go_at_call 35; refine (C2.out _ HB3.out).mono ?_; rintro e w4 ⟨rfl, b4⟩; have HB4 := Lib.hid (HB3.out.trans (b4.mono HB3.out.size)); have HY4 := Lib.hid (HY3.out.below b4); have HZ4 := Lib.hid (HZ3.out.below b4); clear b4) | (go_at_call 33; refine (HOR.out w4).mono ?_; rintro e w5 ⟨rfl, rfl⟩))
    all_goals
      go_wp2_with fail
      go_meet
      exact ⟨rfl, HY4.out.alloc _, HZ4.out.alloc _, HB4.out.alloc HB4.out.size _⟩
  case rest =>
  obtain ⟨rfl, hy2', hz2', hb2'⟩ := hcut
  have HY2 := Lib.hid hy2'
  have HZ2 := Lib.hid hz2'
  have HB2 := Lib.hid hb2'
  clear hy2' hz2' hb2' HY0 HZ0 HB0 C1 C2 HOR
  by_cases hW0 : W = 0
  · subst hW0
    have HVM := Lib.hid (HOC.out.2 (by trivial))
    go_wp2_with fail
    with_reducible refine (CM.out _).mono ?_
    rintro e w3 ⟨rfl, rfl⟩
    cases b with
    | false =>
      --@m1
      obtain rfl : V = 1 := HVM.out
      obtain rfl : E = 1 := HE.out
      have HS := Lib.hid (show SR = ⟨[], ⟨[], 0, []⟩⟩ from HSR.out)
      have z0 := HZ2.out.cell 0 _ rfl
      have z1 := HZ2.out.cell 1 _ rfl
      have z2 := HZ2.out.cell 2 _ rfl
      have z3 := HZ2.out.cell 3 _ rfl
      have f0 := HZ2.out.free 0
      have f1 := HZ2.out.free 1
      have f2 := HZ2.out.free 2
      have f3 := HZ2.out.free 3
      have hzl := HZ2.out.lt
      have HBS := Lib.hid (HB2.out.grown (grown_set4 wc qz (.slice none 0 0) (.int .i64 0) (.slice none 0 0) (.int .i64 0)) HB2.out.size (fun g hg => by injection hg with hg; have h1 := HH.out; have h2 := HQR.out; omega))
      go_wp2_with fail
      refine bodyPost_ret (v := .tuple #[.slice none 0 0, .agg #[.slice none 0 0, .int .i64 0, .slice none 0 0, .int .i64 0], .int .i64 1]) (by simp [results, Tryz.results19, go_sem, z0, z1, z2, z3]) rfl ?_
      exact ⟨_, _, rfl, by rw [HS.out]; exact ⟨⟨none, 0, rfl, fun j hj => by simp at hj⟩, prc_zero _ _⟩, HBS.out⟩
      --@end
    | true =>
      obtain rfl : V = 0 := HVM.out
      obtain ⟨hof, hit, hsh0, hsh9⟩ := HOF.out (by trivial)
      have HOFB := Lib.hid hof
      have HIT := Lib.hid hit
      clear HOF hof hit
      obtain ⟨sp, hsp⟩ : ∃ sp : Nat, ship = sp := ⟨ship.toNat, by omega⟩
      subst hsp
      have hs9 : sp ≤ 1000000000000 := by omega
      clear hsh0 hsh9
      have HFITC := Lib.hid (fun x (hx : x ∈ l) w' (hb : Below w.heap.size w w') => fitsR_any x ai li ni ci sp t w' HLI.out.1 (by omega) hci hci' (HLI.out.2.1.below hb) (HLI.out.2.2.1.below hb) HLI.out.2.2.2 HIT.out (HLO.out.2.2.2 x hx) ((HLO.out.2.2.1 x hx).below hb) (HOFB.out x hx).2)
      obtain ⟨b5, hb5⟩ : ∃ b, wc.heap.size = b := ⟨_, rfl⟩
      have hyl2 := HY2.out.1
      have hzl2 := HZ2.out.lt
      rw [hb5] at hyl2 hzl2
      have HS2 : Hid (b5 ≤ wc.heap.size) := Lib.hid (by omega)
      clear hb5
      go_wp2_with fail
      go_loopw [10, 11, 12, 38] (fun v10 _ _ i wr => ∃ (k : Nat) (v : Value), k ≤ n ∧ v = v10 ∧ i = .int .i64 k ∧ wr.ownsRow b5 3 1 v (fitU (ftB li sp t) l k).length (natV (fitU (ftB li sp t) l k)) ∧ XB wr H [.slice ai ni ci, .int .i64 (sp : Int)] ∧ OB wr qz [.slice none 0 0, .int .i64 0, .slice none 0 0, .int .i64 0] 42 ∧ Below w.heap.size w wr ∧ b5 ≤ wr.heap.size) (fun _ _ _ i _ => n - (intOf i).toNat)
      case atStart => exact ⟨0, _, Nat.zero_le _, rfl, rfl, World.ownsRow_nil _ _ _ _, HY2.out, HZ2.out, HB2.out, HS2.out⟩
      case round =>
        obtain ⟨k, v, hk, rfl, rfl, hO, hY, hZ, hB, hsz⟩ := hrel
        have HO := Lib.hid hO
        have HY := Lib.hid hY
        have HZ := Lib.hid hZ
        have HB := Lib.hid hB
        clear HY2 HZ2 HB2 HS2 hO hY hZ hB
        by_cases hlt : k < n
        · --@f1
          have hkl : k < l.length := by have := HLO.out.1; omega
          obtain ⟨p, off, hap, hp, c0, c1, c2, c3, c4, c5, c6, c7, c8, c9, c10, c11⟩ := (HLO.out.2.1.below HB.out).at12 hkl (v0 := .string l[k].key) (v1 := .int .i64 l[k].kind) (v2 := .int .i64 l[k].a) (v3 := .int .i64 l[k].b) (v4 := .slice l[k].tv l[k].tags.length l[k].tc) (v5 := .int .i64 l[k].least) (v6 := .int .i64 l[k].most) (v7 := .string l[k].group) (v8 := .bool l[k].alone) (v9 := .int .i64 l[k].order) (v10 := .int .i64 l[k].from_) (v11 := .int .i64 l[k].to_) rfl
          subst hap
          have C := Lib.hid (fun w' hb => HFITC.out l[k] (List.getElem_mem hkl) w' hb)
          have HU := Lib.hid (fitU_succ (ftB li sp t) l k hkl)
          have HFB : Hid (∀ z, fitV l[k] li sp t = z → ftB li sp t l[k] = (z == 0)) := Lib.hid (fun z h => by unfold ftB nfB; rw [h]; simp [Bool.beq_eq_decide_eq])
          have HUL := Lib.hid (fitU_le (ftB li sp t) l k)
          generalize l[k] = x at *
          rw [show x.cells.toArray = #[.string x.key, .int .i64 x.kind, .int .i64 x.a, .int .i64 x.b, .slice x.tv x.tags.length x.tc, .int .i64 x.least, .int .i64 x.most, .string x.group, .bool x.alone, .int .i64 x.order, .int .i64 x.from_, .int .i64 x.to_] from rfl] at C
          obtain ⟨z, hz⟩ : ∃ z, fitV x li sp t = z := ⟨_, rfl⟩
          rw [hz] at C
          have HFZ := Lib.hid (HFB.out z hz)
          rw [HFZ.out] at HU
          clear hz HFB HFZ
          have HBa := Lib.hid (HB.out.alloc HB.out.size (.cells #[.string x.key, .int .i64 x.kind, .int .i64 x.a, .int .i64 x.b, .slice x.tv x.tags.length x.tc, .int .i64 x.least, .int .i64 x.most, .string x.group, .bool x.alone, .int .i64 x.order, .int .i64 x.from_, .int .i64 x.to_] 37))
          have BA := (Below.refl wr.heap.size wr).alloc (Nat.le_refl _) (.cells #[.string x.key, .int .i64 x.kind, .int .i64 x.a, .int .i64 x.b, .slice x.tv x.tags.length x.tc, .int .i64 x.least, .int .i64 x.most, .string x.group, .bool x.alone, .int .i64 x.order, .int .i64 x.from_, .int .i64 x.to_] 37)
          have HOa := Lib.hid (own_below HO.out BA)
          have HYa := Lib.hid (HY.out.below BA)
          have HZa := Lib.hid (HZ.out.below BA)
          have X0 := Lib.hid (XB.new wr x.cells 37)
          rw [show x.cells = (#[.string x.key, .int .i64 x.kind, .int .i64 x.a, .int .i64 x.b, .slice x.tv x.tags.length x.tc, .int .i64 x.least, .int .i64 x.most, .string x.group, .bool x.alone, .int .i64 x.order, .int .i64 x.from_, .int .i64 x.to_] : Array Value).toList from rfl] at X0
          simp only at X0
          have hsa : (wr.alloc (.cells #[.string x.key, .int .i64 x.kind, .int .i64 x.a, .int .i64 x.b, .slice x.tv x.tags.length x.tc, .int .i64 x.least, .int .i64 x.most, .string x.group, .bool x.alone, .int .i64 x.order, .int .i64 x.from_, .int .i64 x.to_] 37)).heap.size = wr.heap.size + 1 := by simp
          clear HO HY HZ HB BA
          go_upto_region 10 with (fail)
          generalize wr.alloc (.cells #[.string x.key, .int .i64 x.kind, .int .i64 x.a, .int .i64 x.b, .slice x.tv x.tags.length x.tc, .int .i64 x.least, .int .i64 x.most, .string x.group, .bool x.alone, .int .i64 x.order, .int .i64 x.from_, .int .i64 x.to_] 37) = w4 at *
          obtain ⟨qx, hqx⟩ : ∃ q, wr.heap.size = q := ⟨_, rfl⟩
          rw [hqx] at X0 hsa hsz
          try rw [hqx]
          clear c0 c1 c2 c3 c4 c5 c6 c7 c8 c9 c10 c11 hqx hp
          obtain ⟨x0, x1, x2, x3, x4, x5, x6, x7, x8, x9, x10, x11⟩ := X0.out.at12
          have hxl := X0.out.1
          obtain ⟨y0, y1⟩ := HYa.out.at2'
          have hyl := HYa.out.1
          have C2 := Lib.hid (C.out w4 HBa.out)
          clear C
          go_wp2_with fail
          with_reducible refine C2.out.mono ?_
          rintro e w5 ⟨rfl, b6⟩
          have HB5 := Lib.hid (HBa.out.trans (b6.mono HBa.out.size))
          have HY5 := Lib.hid (HYa.out.below b6)
          have HZ5 := Lib.hid (HZa.out.below b6)
          have HO5 := Lib.hid (own_below HOa.out b6)
          have hs5 : b5 ≤ w5.heap.size := by have := b6.size; omega
          clear x0 x1 x2 x3 x4 x5 x6 x7 x8 x9 x10 x11 hxl y0 y1 hyl X0 HBa HYa HZa HOa b6 C2 hsa hsz
          by_cases hz0' : z = 0
          · subst hz0'
            obtain ⟨U, hU⟩ : ∃ U, fitU (ftB li sp t) l k = U := ⟨_, rfl⟩
            rw [hU] at HO5 HU HUL
            have HU2 : Hid (fitU (ftB li sp t) l (k + 1) = U ++ [k]) := Lib.hid (HU.out.trans (by simp))
            obtain ⟨m, hm⟩ : ∃ m, U.length = m := ⟨_, rfl⟩
            rw [hm] at HO5 HUL
            have HML := Lib.hid (show (fitU (ftB li sp t) l (k + 1)).length = m + 1 by rw [HU2.out, List.length_append, hm]; rfl)
            have hm13 : m ≤ 13 := by have := HUL.out; omega
            clear hU hm HU HUL
            have BA := (Below.refl w5.heap.size w5).alloc (Nat.le_refl _) (.cells #[.int .i64 (k : Int)] 3)
            have HOb := Lib.hid (own_below HO5.out BA)
            have HYb := Lib.hid (HY5.out.below BA)
            have HZb := Lib.hid (HZ5.out.below BA)
            have HBb := Lib.hid (HB5.out.alloc HB5.out.size (.cells #[.int .i64 (k : Int)] 3))
            have HNW : Hid (∀ j u, ([.int .i64 (k : Int)] : List Value)[j]? = some u → (w5.alloc (.cells #[.int .i64 (k : Int)] 3)).cell? ((⟨w5.heap.size, 0, none⟩ : Addr).add j) = some u) := Lib.hid (fun j u h => World.news_of_block (heap_alloc_new w5 (.cells #[.int .i64 (k : Int)] 3)) j u h)
            have HSb : Hid (b5 ≤ (w5.alloc (.cells #[.int .i64 (k : Int)] 3)).heap.size) := Lib.hid (by rw [World.size_alloc]; omega)
            have HOB : Hid (∀ g, v.ownBlock = some g → b5 ≤ g) := Lib.hid (fun g hg => (HO5.out.lt g hg).1)
            have hmy : m + 1 ≤ maxLen := by unfold maxLen; omega
            have hmb : (m + 1) * 8 ≤ 140737488355328 := by omega
            clear HO5 HY5 HZ5 HB5 BA hs5
            go_wp2_with (first | (at_builtin; refine wpList_append_lies _ rfl _ _ 22 rfl b5 3 i0 _ 1 8 Tryz.underlying22 hi hz0 hz1 hz2 rfl (by decide) v m _ rfl HOb.out ⟨w5.heap.size, 0, none⟩ 1 1 [.int .i64 (k : Int)] rfl rfl HNW.out ?ca2 Nat.one_pos hmy hmb HSb.out _ rfl ?_))
            case ca2 => simp [Value.oneCell']
            intro gq cq w8 own8 grow8 at8 lt8
            have HU3 : Hid ((fitU (ftB li sp t) l (k + 1)).length = m + 1 ∧ natV (fitU (ftB li sp t) l (k + 1)) = natV U ++ [.int .i64 (k : Int)]) := Lib.hid ⟨HML.out, by rw [HU2.out]; simp [natV]⟩
            have HO9 : Hid (w8.ownsRow b5 3 1 (.slice (some ⟨gq, 0, none⟩) (m + 1) cq) (fitU (ftB li sp t) l (k + 1)).length (natV (fitU (ftB li sp t) l (k + 1)))) := Lib.hid (by rw [HU3.out.1, HU3.out.2]; exact own8)
            have HY9 := Lib.hid (HYb.out.grown grow8 (fun e => by have := HOB.out _ e; omega))
            have HZ9 := Lib.hid (HZb.out.grown grow8 (fun e => by have := HOB.out _ e; omega))
            have HB9 := Lib.hid (HBb.out.grown grow8 HBb.out.size (fun g hg => by have := HOB.out g hg; have := HH.out; omega))
            have HS9 := Lib.hid (Nat.le_trans HSb.out grow8.size)
            clear own8 grow8 at8 lt8 HOb HYb HZb HBb HNW HSb HOB HU2 HU3 HML
            go_wp2_with fail
            go_roundw
            case rel => exact ⟨k + 1, _, by omega, rfl, by go_num, HO9.out, HY9.out, HZ9.out, HB9.out, HS9.out⟩
            case measure => simp [intOf]; omega
          · have e1 : (z == 0) = false := by simpa using hz0'
            have HU2 : Hid (fitU (ftB li sp t) l (k + 1) = fitU (ftB li sp t) l k) := Lib.hid (HU.out.trans (by rw [e1]; simp))
            have HO9 : Hid (w5.ownsRow b5 3 1 v (fitU (ftB li sp t) l (k + 1)).length (natV (fitU (ftB li sp t) l (k + 1)))) := Lib.hid (by rw [HU2.out]; exact HO5.out)
            clear HU HU2 HUL HO5 hz0'
            go_wp2_with fail
            go_roundw
            case rel => exact ⟨k + 1, _, by omega, rfl, by go_num, HO9.out, HY5.out, HZ5.out, HB5.out, hs5⟩
            case measure => simp [intOf]; omega
          --@end
        · obtain rfl : k = n := by omega
          have HFN : Hid (fitU (ftB li sp t) l k = F) := Lib.hid (by rw [← HFF.out, ← HLO.out.1]; rfl)
          obtain ⟨nf, hnf⟩ : ∃ m, F.length = m := ⟨_, rfl⟩
          rw [HFN.out, hnf] at HO
          rw [hnf] at HE HSR
          have HNF := Lib.hid hnf
          have hnf13 : nf ≤ 13 := by rw [← hnf, ← HFN.out]; have := fitU_le (ftB li sp t) l k; omega
          have HFL : Hid (∀ i ∈ F, i < k) := Lib.hid (fun i hi => fitU_lt (by rw [HFN.out]; exact hi))
          have HFT : Hid (∀ i ∈ F, ∃ x, l[i]? = some x ∧ nfB li sp t x = false) := Lib.hid (fun i hi => by
            obtain ⟨x, h1, h2⟩ := fitU_fit (f := ftB li sp t) (l := l) (k := k) (by rw [HFN.out]; exact hi)
            exact ⟨x, h1, by unfold ftB at h2; simpa using h2⟩)
          have HSB : Hid (F.Sublist (List.range l.length)) := Lib.hid (by rw [← HFN.out, ← HLO.out.1]; exact fitU_sub _ _)
          obtain ⟨la, cl, hv, hcl, -⟩ := own_form HO.out
          subst hv
          clear hnf HFN HFF hcl
          by_cases h10 : 10 < nf
          · --@g1
            obtain rfl : E = 2 := by have h := HE.out; rw [if_pos (by trivial), if_pos h10] at h; exact h
            have HS := Lib.hid (show SR = ⟨[], ⟨[], 0, []⟩⟩ from HSR.out)
            clear HE HSR
            have z0 := HZ.out.cell 0 _ rfl
            have z1 := HZ.out.cell 1 _ rfl
            have z2 := HZ.out.cell 2 _ rfl
            have z3 := HZ.out.cell 3 _ rfl
            have f0 := HZ.out.free 0
            have f1 := HZ.out.free 1
            have f2 := HZ.out.free 2
            have f3 := HZ.out.free 3
            have hzl := HZ.out.lt
            have HBS := Lib.hid (HB.out.grown (grown_set4 wr qz (.slice none 0 0) (.int .i64 0) (.slice none 0 0) (.int .i64 0)) HB.out.size (fun g hg => by injection hg with hg; have h1 := HH.out; have h2 := HQR.out; omega))
            go_wp2_with fail
            refine bodyPost_ret (v := .tuple #[.slice none 0 0, .agg #[.slice none 0 0, .int .i64 0, .slice none 0 0, .int .i64 0], .int .i64 2]) (by simp [results, Tryz.results19, go_sem, z0, z1, z2, z3]) rfl ?_
            exact ⟨_, _, rfl, by rw [HS.out]; exact ⟨⟨none, 0, rfl, fun j hj => by simp at hj⟩, prc_zero _ _⟩, HBS.out⟩
            --@end
          · obtain rfl : E = 0 := by have h := HE.out; rw [if_pos (by trivial), if_neg h10] at h; exact h
            have HS := Lib.hid (show SR = bsGo l li sp F (2 ^ nf - 1) from HSR.out)
            have hnf10 : nf ≤ 10 := by omega
            have CP := Lib.hid (fun (o : List Of) w' a' c' (hb : Below w.heap.size w w') (h1 : o.length ≤ 12) (hc1 : o.length ≤ c') (hc2 : c' ≤ maxLen) (h2 : RAt w' a' 12 Of.cells o) (h3 : ∀ x ∈ o, x ∈ l) => PriceOf_any a' o o.length c' ai li ni ci (sp : Int) t w' rfl h1 hc1 hc2 h2 (fun x hx => (HLO.out.2.2.1 x (h3 x hx)).below hb) (fun x hx => HLO.out.2.2.2 x (h3 x hx)) HLI.out.1 hni1 hci hci' (HLI.out.2.1.below hb) (HLI.out.2.2.1.below hb) HLI.out.2.2.2)
            clear HE HSR hnf13
            obtain ⟨q14, hq14⟩ : ∃ q, wr.heap.size = q := ⟨_, rfl⟩
            have BA := (Below.refl wr.heap.size wr).alloc (Nat.le_refl _) (.cells #[.slice none 0 0, .int .i64 0, .slice none 0 0, .int .i64 0] 42)
            have HX7 := Lib.hid (OB.new wr [.slice none 0 0, .int .i64 0, .slice none 0 0, .int .i64 0] 42)
            simp only [List.toArray] at HX7
            have HK7 : Hid (Kq q14 qz (fun w => PrcAt w 0 (.agg #[.slice none 0 0, .int .i64 0, .slice none 0 0, .int .i64 0]) ⟨[], 0, []⟩) (wr.alloc (.cells #[.slice none 0 0, .int .i64 0, .slice none 0 0, .int .i64 0] 42))) := Lib.hid (fun _ _ _ _ => prc_zero _ _)
            have HPB : Hid (PrBox (wr.alloc (.cells #[.slice none 0 0, .int .i64 0, .slice none 0 0, .int .i64 0] 42)) q14 qz ⟨[], 0, []⟩) := Lib.hid ⟨none, 0, none, 0, by rw [← hq14]; exact HX7.out, HK7.out⟩
            have HB7 := Lib.hid (HB.out.alloc HB.out.size (.cells #[.slice none 0 0, .int .i64 0, .slice none 0 0, .int .i64 0] 42))
            have HY7 := Lib.hid (HY.out.below BA)
            have HZ7 := Lib.hid (HZ.out.below BA)
            have HO7 := Lib.hid (own_below HO.out BA)
            have HLT : Hid (H < q14 ∧ qz < q14 ∧ (∀ g, (Value.slice la nf cl).ownBlock = some g → g < q14)) := Lib.hid ⟨by have := HY.out.1; omega, by have := HZ.out.lt; omega, fun g hg => by have := (HO.out.lt g hg).2; omega⟩
            have hs7 : Hid (q14 + 1 ≤ (wr.alloc (.cells #[.slice none 0 0, .int .i64 0, .slice none 0 0, .int .i64 0] 42)).heap.size) := Lib.hid (by rw [World.size_alloc]; omega)
            clear HB HY HZ HO BA HX7 HK7 hsz
            go_upto_region 17 with (fail)
            generalize wr.alloc (.cells #[.slice none 0 0, .int .i64 0, .slice none 0 0, .int .i64 0] 42) = w7 at *
            try rw [hq14]
            clear hq14
            have hpow : nf ≤ 10 → 2 ^ nf ≤ 1024 := fun h => Nat.le_trans (Nat.pow_le_pow_right (by omega) h) (by decide)
            have hp1024 := hpow hnf10
            have hp0 : 0 < 2 ^ nf := Nat.pow_pos (by omega)
            obtain ⟨N2, hN2⟩ : ∃ z, 2 ^ nf = z := ⟨_, rfl⟩
            rw [hN2] at HS hp1024 hp0
            have hsl : wrap64 ((2 : Int) ^ nf) = (N2 : Int) := by
              have e1 : (2 : Int) ^ nf = ((2 ^ nf : Nat) : Int) := by rw [Int.natCast_pow]; rfl
              rw [e1, hN2]; exact IntWalk.wrap64_in _ ⟨by omega, by omega⟩
            have HSL := Lib.hid hsl
            clear hpow hN2 hsl
            go_wp2_with fail
            go_loopw [13, 60] (fun v13 m15 wr => ∃ (k2 : Nat) (v : Value), k2 ≤ N2 ∧ v = v13 ∧ m15 = .int .i64 (k2 : Int) ∧ ChBox wr q14 qz v (bsRf l li sp F k2).best ∧ PrBox wr q14 qz (bsRf l li sp F k2).pr ∧ wr.ownsRow b5 3 1 (.slice la nf cl) nf (natV F) ∧ XB wr H [.slice ai ni ci, .int .i64 (sp : Int)] ∧ OB wr qz [.slice none 0 0, .int .i64 0, .slice none 0 0, .int .i64 0] 42 ∧ Below w.heap.size w wr ∧ q14 + 1 ≤ wr.heap.size) (fun _ m15 _ => N2 - (intOf m15).toNat)
            case atStart => exact ⟨0, _, Nat.zero_le _, rfl, rfl, ChBox.nil _ _ _, HPB.out, HO7.out, HY7.out, HZ7.out, HB7.out, hs7.out⟩
            case round =>
              obtain ⟨k2, v, hk2, rfl, rfl, hC, hP, hO, hY, hZ, hB, hsz⟩ := hrel
              have HC := Lib.hid hC
              have HP := Lib.hid hP
              have HO := Lib.hid hO
              have HY := Lib.hid hY
              have HZ := Lib.hid hZ
              have HB := Lib.hid hB
              clear HPB HO7 HY7 HZ7 HB7 hs7 hC hP hO hY hZ hB
              by_cases hlt2 : k2 < N2
              · obtain ⟨b7, hb7⟩ : ∃ b, wr.heap.size = b := ⟨_, rfl⟩
                have HB7 := Lib.hid hb7
                obtain ⟨mk, hmk⟩ : ∃ m, k2 = m := ⟨_, rfl⟩
                rw [hmk] at hlt2 ⊢
                have HMK := Lib.hid hmk
                have HW0 : Hid (Below b7 wr wr) := Lib.hid (Below.refl _ _)
                clear hb7 hmk
                have hsl := HSL.out
                go_wp2_with fail
                clear hsl
                obtain ⟨wo, rfl⟩ : ∃ wo : World, wo = wr := ⟨_, rfl⟩
                go_loopw [16, 17, 18, 19, 65] (fun v16 v17 _ _ i wx => ∃ (j : Nat) (vc vo : Value), j ≤ nf ∧ vc = v16 ∧ vo = v17 ∧ i = .int .i64 j ∧ wx.ownsRow b7 3 1 vc (selI F mk j).length (natV (selI F mk j)) ∧ wx.ownsRow b7 37 12 vo (selI F mk j).length ((selO l (selI F mk j)).flatMap Of.cells) ∧ Below b7 wo wx ∧ b7 ≤ wx.heap.size) (fun _ _ _ _ i _ => nf - (intOf i).toNat)
                case atStart => exact ⟨0, _, _, Nat.zero_le _, rfl, rfl, rfl, World.ownsRow_nil _ _ _ _, World.ownsRow_nil _ _ _ _, HW0.out, by have := HB7.out; omega⟩
                case round =>
                  obtain ⟨j, vc, vo, hj, rfl, rfl, rfl, hC1, hO1, hB1, hsz1⟩ := hrel
                  have HC1 := Lib.hid hC1
                  have HO1 := Lib.hid hO1
                  have HW1 := Lib.hid hB1
                  clear HW0 hC1 hO1 hB1
                  by_cases hlt : j < nf
                  · have hFr := own_nats (own_below HO.out (HB7.out ▸ HW1.out))
                    have hjF : j < F.length := by have := HNF.out; omega
                    obtain ⟨pf, of, hla, hpf, hcf⟩ := hFr.at_ hjF
                    subst hla
                    clear hFr
                    have HSI := Lib.hid (selI_succ F mk j)
                    have hFj : F.getD j 0 = F[j] := by rw [List.getD_eq_getElem?_getD, List.getElem?_eq_getElem hjF]; rfl
                    rw [hFj] at HSI
                    have hil := HFL.out F[j] (List.getElem_mem hjF)
                    generalize F[j] = ix at *
                    have HBT := Lib.hid (and_bit mk j (by omega))
                    cases htb : mk.testBit j with
                    | false =>
                      have hb1 := HBT.out.2 htb
                      have HS1 : Hid (selI F mk (j + 1) = selI F mk j) := Lib.hid (HSI.out.trans (by rw [htb]; simp))
                      rw [← HS1.out] at HC1 HO1
                      clear HBT HSI htb hFj HS1 hpf
                      go_wp2_with fail
                      go_roundw
                      case rel => exact ⟨j + 1, _, _, by omega, rfl, rfl, by go_num, HC1.out, HO1.out, HW1.out, hsz1⟩
                      case measure => simp [intOf]; omega
                    | true =>
                      have hb1 := HBT.out.1 htb
                      have HS1 : Hid (selI F mk (j + 1) = selI F mk j ++ [ix]) := Lib.hid (HSI.out.trans (by rw [htb]; simp))
                      clear HBT HSI htb hFj
                      go_upto_region 26 with (fail)
                      clear hb1 hcf
                      have hixl : ix < l.length := by have := HLO.out.1; omega
                      have HSO := Lib.hid (selO_snoc l (selI F mk j) ix hixl)
                      rw [← HS1.out] at HSO
                      have HBW : Hid (Below w.heap.size w wr) := Lib.hid (HB.out.trans (HW1.out.mono (by have := HB.out.size; have := HB7.out; omega)))
                      have HRL := Lib.hid (fun w' (hb : Below w.heap.size w w') => HLO.out.2.1.below hb)
                      obtain ⟨CI, hCI⟩ : ∃ z, selI F mk j = z := ⟨_, rfl⟩
                      obtain ⟨CO, hCO⟩ : ∃ z, selO l CI = z := ⟨_, rfl⟩
                      rw [hCI] at HC1 HO1 HS1 HSO
                      rw [hCO] at HO1 HSO
                      obtain ⟨m, hm⟩ : ∃ z, CI.length = z := ⟨_, rfl⟩
                      rw [hm] at HC1 HO1
                      have hmle : m ≤ 10 := by rw [← hm, ← hCI]; have := selI_le F mk j; omega
                      have HML := Lib.hid (show (selI F mk (j + 1)).length = m + 1 by rw [HS1.out, List.length_append, hm]; rfl)
                      have HNV := Lib.hid (show natV (selI F mk (j + 1)) = natV CI ++ [.int .i64 (ix : Int)] by rw [HS1.out]; simp [natV])
                      have HFM := Lib.hid (show (selO l (selI F mk (j + 1))).flatMap Of.cells = CO.flatMap Of.cells ++ (l[ix]'hixl).cells by rw [HSO.out, List.flatMap_append]; simp)
                      obtain ⟨q7, hq7⟩ : ∃ q, wr.heap.size = q := ⟨_, rfl⟩
                      have HOW : Hid (Owns b7 wr [⟨3, 1, vc, m, natV CI⟩, ⟨37, 12, vo, m, CO.flatMap Of.cells⟩]) := Lib.hid ⟨fun r hr => by
                        rcases List.mem_cons.1 hr with rfl | hr
                        · exact HC1.out
                        · obtain rfl := List.mem_singleton.1 hr
                          exact HO1.out, by
                        rw [List.pairwise_cons]
                        refine ⟨fun s hs g hg => ?_, by simp⟩
                        obtain rfl := List.mem_singleton.1 hs
                        exact own_apart HO1.out HC1.out (by decide) g hg⟩
                      have HLV : Hid (∀ g, vc.ownBlock = some g → g < q7) := Lib.hid (fun g hg => by have := (HC1.out.lt g hg).2; omega)
                      have HLO2 : Hid (∀ g, vo.ownBlock = some g → g < q7) := Lib.hid (fun g hg => by have := (HO1.out.lt g hg).2; omega)
                      have hwb7 : w.heap.size ≤ b7 := by have := HB.out.size; have := HB7.out; omega
                      obtain ⟨p3, of3, hap, hp3, c0, c1, c2, c3, c4, c5, c6, c7, c8, c9, c10, c11⟩ := (HRL.out wr HBW.out).at12 hixl (v0 := .string l[ix].key) (v1 := .int .i64 l[ix].kind) (v2 := .int .i64 l[ix].a) (v3 := .int .i64 l[ix].b) (v4 := .slice l[ix].tv l[ix].tags.length l[ix].tc) (v5 := .int .i64 l[ix].least) (v6 := .int .i64 l[ix].most) (v7 := .string l[ix].group) (v8 := .bool l[ix].alone) (v9 := .int .i64 l[ix].order) (v10 := .int .i64 l[ix].from_) (v11 := .int .i64 l[ix].to_) rfl
                      have HCX := Lib.hid (fun w' (hb : Below b7 wr w') => show w'.cell? ⟨p3, of3 + ix * 12, none⟩ = some (.string l[ix].key) ∧ w'.cell? ⟨p3, of3 + ix * 12 + 1, none⟩ = some (.int .i64 l[ix].kind) ∧ w'.cell? ⟨p3, of3 + ix * 12 + 2, none⟩ = some (.int .i64 l[ix].a) ∧ w'.cell? ⟨p3, of3 + ix * 12 + 3, none⟩ = some (.int .i64 l[ix].b) ∧ w'.cell? ⟨p3, of3 + ix * 12 + 4, none⟩ = some (.slice l[ix].tv l[ix].tags.length l[ix].tc) ∧ w'.cell? ⟨p3, of3 + ix * 12 + 5, none⟩ = some (.int .i64 l[ix].least) ∧ w'.cell? ⟨p3, of3 + ix * 12 + 6, none⟩ = some (.int .i64 l[ix].most) ∧ w'.cell? ⟨p3, of3 + ix * 12 + 7, none⟩ = some (.string l[ix].group) ∧ w'.cell? ⟨p3, of3 + ix * 12 + 8, none⟩ = some (.bool l[ix].alone) ∧ w'.cell? ⟨p3, of3 + ix * 12 + 9, none⟩ = some (.int .i64 l[ix].order) ∧ w'.cell? ⟨p3, of3 + ix * 12 + 10, none⟩ = some (.int .i64 l[ix].from_) ∧ w'.cell? ⟨p3, of3 + ix * 12 + 11, none⟩ = some (.int .i64 l[ix].to_) by
                        obtain ⟨p4, of4, hap4, hp4, e⟩ := (HRL.out w' (HBW.out.trans (hb.mono hwb7))).at12 hixl (v0 := .string l[ix].key) (v1 := .int .i64 l[ix].kind) (v2 := .int .i64 l[ix].a) (v3 := .int .i64 l[ix].b) (v4 := .slice l[ix].tv l[ix].tags.length l[ix].tc) (v5 := .int .i64 l[ix].least) (v6 := .int .i64 l[ix].most) (v7 := .string l[ix].group) (v8 := .bool l[ix].alone) (v9 := .int .i64 l[ix].order) (v10 := .int .i64 l[ix].from_) (v11 := .int .i64 l[ix].to_) rfl
                        obtain ⟨h1, h2⟩ : p3 = p4 ∧ of3 = of4 := by
                          have h := hap.symm.trans hap4
                          simpa using h
                        rw [h1, h2]
                        exact e)
                      subst hap
                      have HON := Lib.hid (ofc_one2 l[ix])
                      generalize l[ix] = x at *
                      rw [show x.cells = [.string x.key, .int .i64 x.kind, .int .i64 x.a, .int .i64 x.b, .slice x.tv x.tags.length x.tc, .int .i64 x.least, .int .i64 x.most, .string x.group, .bool x.alone, .int .i64 x.order, .int .i64 x.from_, .int .i64 x.to_] from rfl] at HON HFM
                      have hmy : m + 1 ≤ maxLen := by unfold maxLen; omega
                      have hmb : (m + 1) * 8 ≤ 140737488355328 := by omega
                      have hmb2 : (m + 1) * 128 ≤ 140737488355328 := by omega
                      have hb7q : b7 ≤ wr.heap.size := hsz1
                      have hixk : ix < k := hil
                      have HJ0 : Hid (JB b7 wr x ix vc vo m (natV CI) (CO.flatMap Of.cells) 77 78 83 84 (fun _ => false) (fun d => if d = 77 then u77 else if d = 78 then u78 else if d = 83 then u83 else u84) wr.drew) := Lib.hid ⟨below_drewN (Below.refl _ _) 1, hb7q, fun _ => HOW.out.drewN 1, fun e => (by cases e), fun e => (by cases e), fun e => (by cases e), fun e => (by cases e)⟩
                      clear HC1 HO1 HS1 HSO HRL HBW hCI hCO hm hixl hsz1 hp3 HOW HLV HLO2 hq7
                      refine wp_region_any (by kernel_rfl) ?_
                      change wpAny _ _ _ _ _ _ _ (World.drew _)
                      generalize World.drew _ = wd at *
                      refine wpAny_take (i := 0) (oi := ⟨some 75, _, _, _, _, _⟩) (v := vc) rfl (by kernel_rfl) (by kernel_rfl) (by kernel_rfl) (fun _ _ _ h => h) (Or.inl ⟨by rfl, fun w => by go_simp⟩) ?_
                      refine wpAny_take (i := 1) (oi := ⟨some 76, _, _, _, _, _⟩) (v := .int .i64 (ix : Int)) rfl (by kernel_rfl) (by kernel_rfl) (by kernel_rfl) (fun _ _ _ h => h) (Or.inl ⟨by rfl, fun w => by go_simp⟩) ?_
                      refine wpAny_take (i := 4) (oi := ⟨some 79, _, _, _, _, _⟩) (v := vo) rfl (by kernel_rfl) (by kernel_rfl) (by kernel_rfl) (fun _ _ _ h => h) (Or.inl ⟨by rfl, fun w => by go_simp⟩) ?_
                      refine wpAny_take (i := 5) (oi := ⟨some 80, _, _, _, _, _⟩) (v := .slice (some ⟨p3, of3, none⟩) k c) rfl (by kernel_rfl) (by kernel_rfl) (by kernel_rfl) (fun _ _ _ h => h) (Or.inl ⟨by rfl, fun w => by go_simp⟩) ?_
                      refine wpAny_take (i := 6) (oi := ⟨some 81, _, _, _, _, _⟩) (v := .int .i64 (ix : Int)) rfl (by kernel_rfl) (by kernel_rfl) (by kernel_rfl) (fun _ _ _ h => h) (Or.inl ⟨by rfl, fun w => by go_simp⟩) ?_
                      refine wpAny_take (i := 7) (oi := ⟨some 82, _, _, _, _, _⟩) (v := .pointer (some ⟨p3, of3 + ix * 12, none⟩)) rfl (by kernel_rfl) (by kernel_rfl) (by kernel_rfl) (fun _ _ _ h => h) (Or.inl ⟨by rfl, fun w => by go_simp⟩) ?_
                      refine wpAny_mask (n := 3) (m := 7) #[true, true, false, false, true, true, true, true, false, false, false, false, false] [2, 3, 8, 9] (fun i => if i = 3 then [2] else if i = 9 then [8] else []) [77, 78, 83, 84] (fun d => if d = 77 then u77 else if d = 78 then u78 else if d = 83 then u83 else u84) (JB b7 wr x ix vc vo m (natV CI) (CO.flatMap Of.cells) 77 78 83 84) rfl (by decide) (by kernel_rfl) (by kernel_rfl) ?stp ?hsp ?hendp
                      case stp => exact HJ0.out
                      case hsp =>
                        intro ii hii b u wx hbi hD hJ
                        simp only [List.mem_cons, List.mem_nil_iff, or_false] at hii
                        have HJ := Lib.hid hJ
                        clear hJ HJ0
                        rcases hii with rfl | rfl | rfl | rfl
                        · --@s1
                          refine wpOp_calm (o := ⟨some 77, ?ap1, ?ap2, ?ap3, ?ap4, ?ap5⟩) ?api ?apg ?_
                          case api => exact rfl
                          case apg => exact rfl
                          intro K' Q' hK'
                          have HK := Lib.hid hK'
                          clear hK'
                          simp only [setAll, List.foldl]
                          go_simp
                          exact HK.out _ _ ⟨upd u 77 (.slice (some ⟨wx.heap.size, 0, none⟩) 1 1), by kernel_rfl, HJ.out.step (World.grownBy_alloc _ _ _) rfl rfl (fun _ => .inr ⟨_, rfl, heap_alloc_new _ _⟩) (fun e => HJ.out.p8 e) (fun e => .inl ⟨e, rfl⟩)⟩
                        --@end
                        · --@s2
                          refine wpOp_calm (o := ⟨some 78, ?bp1, ?bp2, ?bp3, ?bp4, ?bp5⟩) ?bpi ?bpg ?_
                          case bpi => exact rfl
                          case bpg => exact rfl
                          intro K' Q' hK'
                          have HK := Lib.hid hK'
                          clear hK'
                          obtain ⟨h, hv, hblk⟩ := HJ.out.p2 (hD 2 (by simp)) hbi
                          have hO := (HJ.out.p0 hbi).at_ [] [⟨37, 12, vo, m, CO.flatMap Of.cells⟩] ⟨3, 1, vc, m, natV CI⟩
                          simp only [setAll, List.foldl, hv]
                          refine wp_append_lies _ (.tmp 75) (.tmp 77) 22 (by rfl) b7 3 i0 _ 1 8 Tryz.underlying22 hi hz0 hz1 hz2 rfl (by decide) vc m (natV CI) (by kernel_rfl) hO ⟨h, 0, none⟩ 1 1 [.int .i64 (ix : Int)] (by kernel_rfl) rfl (fun j u h => World.news_of_block hblk j u h) (by simp [Value.oneCell']) Nat.one_pos hmy hmb HJ.out.sz _ rfl ?_
                          intro g cap w1 own1 grow1 at1 lt1
                          exact HK.out _ _ ⟨upd (upd u 77 (.slice (some ⟨h, 0, none⟩) 1 1)) 78 (.slice (some ⟨g, 0, none⟩) (m + 1) cap), by kernel_rfl, by
                            rw [upd_same hv]
                            exact HJ.out.app hbi own1 grow1 at1 rfl rfl rfl rfl rfl rfl⟩
                        --@end
                        · --@s3
                          refine wpOp_calm (o := ⟨some 83, ?cp1, ?cp2, ?cp3, ?cp4, ?cp5⟩) ?cpi ?cpg ?_
                          case cpi => exact rfl
                          case cpg => exact rfl
                          intro K' Q' hK'
                          have HK := Lib.hid hK'
                          clear hK'
                          have HDD := Lib.hid (HCX.out wx HJ.out.low)
                          have d0 := HDD.out.1
                          have d1 := HDD.out.2.1
                          have d2 := HDD.out.2.2.1
                          have d3 := HDD.out.2.2.2.1
                          have d4 := HDD.out.2.2.2.2.1
                          have d5 := HDD.out.2.2.2.2.2.1
                          have d6 := HDD.out.2.2.2.2.2.2.1
                          have d7 := HDD.out.2.2.2.2.2.2.2.1
                          have d8 := HDD.out.2.2.2.2.2.2.2.2.1
                          have d9 := HDD.out.2.2.2.2.2.2.2.2.2.1
                          have d10 := HDD.out.2.2.2.2.2.2.2.2.2.2.1
                          have d11 := HDD.out.2.2.2.2.2.2.2.2.2.2.2
                          clear HDD
                          simp only [setAll, List.foldl]
                          go_simp
                          exact HK.out _ _ ⟨upd u 83 (.agg #[.string x.key, .int .i64 x.kind, .int .i64 x.a, .int .i64 x.b, .slice x.tv x.tags.length x.tc, .int .i64 x.least, .int .i64 x.most, .string x.group, .bool x.alone, .int .i64 x.order, .int .i64 x.from_, .int .i64 x.to_]), by kernel_rfl, HJ.out.step (grown_refl _ _) rfl rfl (fun e => .inl ⟨e, rfl⟩) (fun _ => rfl) (fun e => .inl ⟨e, rfl⟩)⟩
                        --@end
                        · --@s4
                          refine wpOp_calm (o := ⟨some 84, ?dp1, ?dp2, ?dp3, ?dp4, ?dp5⟩) ?dpi ?dpg ?_
                          case dpi => exact rfl
                          case dpg => exact rfl
                          intro K' Q' hK'
                          have HK := Lib.hid hK'
                          clear hK'
                          have h8 : u 83 = .agg #[.string x.key, .int .i64 x.kind, .int .i64 x.a, .int .i64 x.b, .slice x.tv x.tags.length x.tc, .int .i64 x.least, .int .i64 x.most, .string x.group, .bool x.alone, .int .i64 x.order, .int .i64 x.from_, .int .i64 x.to_] := HJ.out.p8 (hD 8 (by simp))
                          simp only [setAll, List.foldl, h8]
                          go_simp
                          exact HK.out _ _ ⟨upd (upd u 83 (.agg #[.string x.key, .int .i64 x.kind, .int .i64 x.a, .int .i64 x.b, .slice x.tv x.tags.length x.tc, .int .i64 x.least, .int .i64 x.most, .string x.group, .bool x.alone, .int .i64 x.order, .int .i64 x.from_, .int .i64 x.to_])) 84 (.slice (some ⟨wx.heap.size, 0, none⟩) 1 1), by kernel_rfl, by
                            rw [upd_same h8]
                            exact HJ.out.step (World.grownBy_alloc _ _ _) rfl rfl (fun e => .inl ⟨e, rfl⟩) (fun e => HJ.out.p8 e) (fun _ => .inr ⟨_, rfl, heap_alloc_new _ _⟩)⟩
                        --@end
                      case hendp =>
                        --@s5
                        intro b u wx hb hJ
                        obtain ⟨g3, cap3, h3, hO3⟩ := hJ.p3 (hb 3 (by simp))
                        obtain ⟨h9, hv9, hblk9⟩ := hJ.p9 (hb 9 (by simp))
                        have hlow := hJ.low
                        have hsz := hJ.sz
                        have hO4 := hO3.at_ [⟨3, 1, .slice (some ⟨g3, 0, none⟩) (m + 1) cap3, m + 1, natV CI ++ [.int .i64 (ix : Int)]⟩] [] ⟨37, 12, vo, m, CO.flatMap Of.cells⟩
                        simp only [setAll, List.foldl, h3, hv9]
                        clear hb hJ h3 hv9 HJ0
                        refine wpAny_ready (rs := [10]) (by kernel_rfl) (by simp) ?_
                        refine AllReady.cons rfl (fun K6 hK6 => ?_) AllReady.nil
                        refine step_append_lies (o := ⟨some 85, _, _, _, _, _⟩) _ (by rfl) (.tmp 79) (.tmp 84) 26 (by rfl) b7 37 j0 _ 12 128 Tryz.underlying26 hj0 hy0 hy1 hy2 rfl (by decide) vo m (CO.flatMap Of.cells) (by kernel_rfl) hO4 ⟨h9, 0, none⟩ 1 1 [.string x.key, .int .i64 x.kind, .int .i64 x.a, .int .i64 x.b, .slice x.tv x.tags.length x.tc, .int .i64 x.least, .int .i64 x.most, .string x.group, .bool x.alone, .int .i64 x.order, .int .i64 x.from_, .int .i64 x.to_] (by kernel_rfl) (by rfl) (fun j u h => World.news_of_block hblk9 j u h) HON.out Nat.one_pos hmy hmb2 hsz _ rfl ?_
                        intro g4 cap4 wy own4 grow4 at4 lt4
                        have X := Owns.app (H := wx.heap.size) [⟨3, 1, .slice (some ⟨g3, 0, none⟩) (m + 1) cap3, m + 1, natV CI ++ [.int .i64 (ix : Int)]⟩] [] ⟨37, 12, vo, m, CO.flatMap Of.cells⟩ hO3 (grown_refl _ _) hsz own4 grow4 at4 (fun g hg => (hO4.lt g hg).2)
                        have HC9 : Hid (wy.ownsRow b7 3 1 (.slice (some ⟨g3, 0, none⟩) (m + 1) cap3) (selI F mk (j + 1)).length (natV (selI F mk (j + 1)))) := Lib.hid (by
                          rw [HML.out, HNV.out]
                          exact X.1.at_ [] [⟨37, 12, .slice (some ⟨g4, 0, none⟩) (m + 1) cap4, m + 1, _⟩] ⟨3, 1, .slice (some ⟨g3, 0, none⟩) (m + 1) cap3, m + 1, natV CI ++ [.int .i64 (ix : Int)]⟩)
                        have HO9 : Hid (wy.ownsRow b7 37 12 (.slice (some ⟨g4, 0, none⟩) (m + 1) cap4) (selI F mk (j + 1)).length ((selO l (selI F mk (j + 1))).flatMap Of.cells)) := Lib.hid (by
                          rw [HML.out, HFM.out]
                          exact own4)
                        have HW9 := Lib.hid (HW1.out.trans (hlow.trans X.2.1))
                        have hsz9 : b7 ≤ wy.heap.size := Nat.le_trans hsz X.2.1.size
                        refine hK6 _ _ ?_
                        clear hK6 K6 own4 grow4 at4 X hO3 hO4 hlow hblk9 HON HCX HML HNV HFM HW1 hsz
                        refine wpAny_take (i := 11) (oi := ⟨some 16, _, _, _, _, _⟩) (v := .slice (some ⟨g3, 0, none⟩) (m + 1) cap3) rfl (by kernel_rfl) (by kernel_rfl) (by kernel_rfl) (fun _ _ _ h => h) (Or.inl ⟨by rfl, fun w => by go_simp⟩) ?_
                        refine wpAny_take (i := 12) (oi := ⟨some 17, _, _, _, _, _⟩) (v := .slice (some ⟨g4, 0, none⟩) (m + 1) cap4) rfl (by kernel_rfl) (by kernel_rfl) (by kernel_rfl) (fun _ _ _ h => h) (Or.inl ⟨by rfl, fun w => by go_simp⟩) ?_
                        refine wpAny_done (by kernel_rfl) ?_ _
                        go_wp2_with fail
                        go_roundw
                        case rel => exact ⟨j + 1, _, _, by omega, rfl, rfl, by go_num, HC9.out, HO9.out, HW9.out, hsz9⟩
                        case measure => simp [intOf]; omega
                      --@end
                  · --@x1
                    obtain rfl : j = nf := by omega
                    obtain ⟨CI, hCI⟩ : ∃ z, selI F mk j = z := ⟨_, rfl⟩
                    obtain ⟨CO, hCO⟩ : ∃ z, selO l CI = z := ⟨_, rfl⟩
                    obtain ⟨G, hG⟩ : ∃ z, bsRf l li sp F k2 = z := ⟨_, rfl⟩
                    obtain ⟨PS, hPS⟩ : ∃ z, prOf li sp CO = z := ⟨_, rfl⟩
                    have HCB := Lib.hid (show ∀ i ∈ CI, i < l.length from fun i hi => by rw [HLO.out.1]; exact HFL.out i (selI_mem (Nat.le_of_eq HNF.out.symm) (by rw [hCI]; exact hi)))
                    have HGS : Hid (bsRf l li sp F (mk + 1) = if togB CO = true then (if mk = 0 ∨ btV PS CI G < 0 then ⟨CI, PS⟩ else G) else G) := Lib.hid (by
                      rw [bsRf_step l li sp F j mk HNF.out, hCI, hCO, hPS, ← HMK.out, hG])
                    have HLN := Lib.hid (show CO.length = CI.length by rw [← hCO]; exact selO_len HCB.out)
                    have HCS := Lib.hid (show CO.Sublist l by rw [← hCO]; exact selO_sub ((show CI.Sublist F by rw [← hCI]; exact selI_sub _ _ _ (Nat.le_of_eq HNF.out.symm)).trans HSB.out))
                    have hm10 : CI.length ≤ 10 := by rw [← hCI]; have := selI_le F mk j; omega
                    have HGL := Lib.hid (show G.best.length ≤ 10 by rw [← hG]; have := bsRf_len l li sp F k2; have := HNF.out; omega)
                    have HPE := Lib.hid hPS
                    rw [hCI] at HC1 HO1
                    rw [hCO] at HO1
                    rw [hG] at HC HP
                    obtain ⟨m, hm⟩ : ∃ z, CI.length = z := ⟨_, rfl⟩
                    rw [hm] at HC1 HO1 HLN hm10
                    have HM := Lib.hid hm
                    have hwb7 : w.heap.size ≤ b7 := by have := HB.out.size; have := HB7.out; omega
                    have HQB : Hid (q14 < b7 ∧ qz < b7) := Lib.hid (by have := HB7.out; have := HLT.out.2.1; omega)
                    obtain ⟨ac, cac, hvc, hcc, -⟩ := own_form HC1.out
                    obtain ⟨ao, cao, hvo, hco, hco2⟩ := own_form HO1.out
                    subst hvc hvo
                    have HSE := Lib.hid (HSUB.out CO HCS.out HVV.out (fun x hx => by
                      rw [← hCO] at hx
                      obtain ⟨i, hi1, hi2⟩ := selO_mem hx
                      obtain ⟨y, hy1', hy2'⟩ := HFT.out i (selI_mem (Nat.le_of_eq HNF.out.symm) (by rw [hCI]; exact hi1))
                      rw [hi2] at hy1'
                      injection hy1' with hy1'
                      subst hy1'
                      exact hy2'))
                    have CT := Lib.hid (CP.out CO wr ao cao (HB.out.trans (HW1.out.mono hwb7)) (by have := HLN.out; omega) (by have := HLN.out; omega) hco2 (own_rat HO1.out HLN.out (fun x _ => x.len)) (fun x hx => HCS.out.subset hx))
                    obtain ⟨TG, hTG⟩ : ∃ z, togB CO = z := ⟨_, rfl⟩
                    obtain ⟨QE, hQE⟩ : ∃ z, bkPrE CO li (sp : Int) t = z := ⟨_, rfl⟩
                    obtain ⟨QS, hQS⟩ : ∃ z, bkPrS CO li (sp : Int) t = z := ⟨_, rfl⟩
                    rw [hQE, hQS, HLN.out] at CT
                    rw [hTG, hQE, hQS] at HSE
                    rw [hTG] at HGS
                    have HPE2 : Hid (prOf li (sp : Int) CO = PS) := Lib.hid hPS
                    rw [HPE2.out] at HSE
                    clear hCI hCO hG hPS hm HCB hTG hlt hQE hQS HPE2
                    obtain ⟨y0, y1⟩ := (HY.out.below (show Below wo.heap.size wo wr by rw [HB7.out]; exact HW1.out)).at2'
                    have hyl := (HY.out.below (show Below wo.heap.size wo wr by rw [HB7.out]; exact HW1.out)).1
                    go_wp2_with fail
                    with_reducible refine CT.out.mono ?_
                    rintro e w6 ⟨u, rfl, hP, b5'⟩
                    have HP6 := Lib.hid hP
                    clear hP y0 y1 hyl
                    obtain ⟨la0, cl0, lc0, cc0, hv, -⟩ := HP6.out
                    subst hv
                    obtain ⟨tt, htt⟩ : ∃ z, QS.ship + QS.left.sum = z := ⟨_, rfl⟩
                    have HTT := Lib.hid (show QS.tot = tt from htt)
                    rw [htt] at HP6 ⊢
                    obtain ⟨q20, hq20⟩ : ∃ q, w6.heap.size = q := ⟨_, rfl⟩
                    have BA := b5'.alloc b5'.size (.cells #[.slice la0 QS.left.length cl0, .int .i64 (QS.ship : Int), .slice lc0 QS.cuts.length cc0, .int .i64 (tt : Int)] 42)
                    have HBW5 : Hid (Below b7 wo (w6.alloc (.cells #[.slice la0 QS.left.length cl0, .int .i64 (QS.ship : Int), .slice lc0 QS.cuts.length cc0, .int .i64 (tt : Int)] 42))) := Lib.hid (HW1.out.trans (BA.mono hsz1))
                    have HBO5 : Hid (Below wo.heap.size wo (w6.alloc (.cells #[.slice la0 QS.left.length cl0, .int .i64 (QS.ship : Int), .slice lc0 QS.cuts.length cc0, .int .i64 (tt : Int)] 42))) := Lib.hid (by rw [HB7.out]; exact HBW5.out)
                    have HX7 := Lib.hid (XB.new w6 [.slice la0 QS.left.length cl0, .int .i64 (QS.ship : Int), .slice lc0 QS.cuts.length cc0, .int .i64 (tt : Int)] 42)
                    simp only [List.toArray] at HX7
                    rw [hq20] at HX7
                    have HK7 := Lib.hid (((HP6.out.below ((Below.refl w6.heap.size w6).alloc (Nat.le_refl _) (.cells #[.slice la0 QS.left.length cl0, .int .i64 (QS.ship : Int), .slice lc0 QS.cuts.length cc0, .int .i64 (tt : Int)] 42)))).above (q := q14) (z := qz) (by have := HQB.out.1; omega) (by have := HQB.out.2; omega))
                    have HC7 := Lib.hid (HC.out.below HBO5.out)
                    have HP7 := Lib.hid (HP.out.below HBO5.out)
                    have HO7a := Lib.hid (own_below HO.out HBO5.out)
                    have HY7a := Lib.hid (HY.out.below HBO5.out)
                    have HZ7a := Lib.hid (HZ.out.below HBO5.out)
                    have HB7a := Lib.hid (HB.out.trans (HBO5.out.mono HB.out.size))
                    have HC1b := Lib.hid (own_below HC1.out BA)
                    have hs7a : q14 + 1 ≤ (w6.alloc (.cells #[.slice la0 QS.left.length cl0, .int .i64 (QS.ship : Int), .slice lc0 QS.cuts.length cc0, .int .i64 (tt : Int)] 42)).heap.size := by have := HBO5.out.size; omega
                    clear HP6 CT HBW5 HBO5 HC HP HO HY HZ HB HC1 HO1 HW1 BA b5' hsz1 hsz
                    go_upto_region 29 with (fail)
                    generalize w6.alloc (.cells #[.slice la0 QS.left.length cl0, .int .i64 (QS.ship : Int), .slice lc0 QS.cuts.length cc0, .int .i64 (tt : Int)] 42) = w7 at *
                    try rw [hq20]
                    clear hq20 htt
                    cases TG with
                    | false =>
                      obtain rfl : QE = 16 := HSE.out.1
                      have HGN : Hid (bsRf l li sp F (mk + 1) = G) := Lib.hid (HGS.out.trans (if_neg (by decide)))
                      clear HGS HSE
                      go_wp2_with fail
                      go_roundw
                      case rel => exact ⟨mk + 1, _, by omega, rfl, by go_num, by rw [HGN.out]; exact HC7.out, by rw [HGN.out]; exact HP7.out, HO7a.out, HY7a.out, HZ7a.out, HB7a.out, hs7a⟩
                      case measure => simp [intOf]; omega
                    | true =>
                      obtain rfl : QE = 0 := HSE.out.1
                      obtain rfl : QS = PS := HSE.out.2 rfl
                      have HGN : Hid (bsRf l li sp F (mk + 1) = if mk = 0 ∨ btV QS CI G < 0 then ⟨CI, QS⟩ else G) := Lib.hid (HGS.out.trans (if_pos rfl))
                      clear HGS HSE
                      obtain ⟨lb, clb, hvb, HKb⟩ := HC7.out
                      subst hvb
                      have HCN := Lib.hid (ChBox.own HC1b.out HM.out HQB.out.1 HQB.out.2)
                      by_cases hz0m : mk = 0
                      · subst hz0m
                        have HGM : Hid (bsRf l li sp F (0 + 1) = ⟨CI, QS⟩) := Lib.hid (HGN.out.trans (if_pos (Or.inl rfl)))
                        clear HC7
                        obtain ⟨x0, x1, x2, x3⟩ := HX7.out.at4
                        have hxl := HX7.out.1
                        obtain ⟨laz, clz, lcz, ccz, hob, -⟩ := HP7.out
                        have z0 := hob.cell 0 _ rfl
                        have z1 := hob.cell 1 _ rfl
                        have z2 := hob.cell 2 _ rfl
                        have z3 := hob.cell 3 _ rfl
                        have f0 := hob.free 0
                        have f1 := hob.free 1
                        have f2 := hob.free 2
                        have f3 := hob.free 3
                        have hzl := hob.lt
                        clear hob
                        have HGR := Lib.hid (grown_set4 w7 q14 (.slice la0 QS.left.length cl0) (.int .i64 (QS.ship : Int)) (.slice lc0 QS.cuts.length cc0) (.int .i64 (tt : Int)))
                        have HC9 := Lib.hid (HCN.out.up HGR.out)
                        have HP9 := Lib.hid (PrBox.set (la := la0) (lc := lc0) (cl := cl0) (cc := cc0) (S := QS) HP7.out (by rw [HTT.out]; exact HK7.out))
                        rw [HTT.out] at HP9
                        have HO9 := Lib.hid (own_grown HO7a.out HGR.out (fun g hg e => by have := HLT.out.2.2 g hg; injection e with e; omega))
                        have HY9 := Lib.hid (HY7a.out.grown HGR.out (fun e => by have := HLT.out.1; injection e with e; omega))
                        have HZ9 := Lib.hid (HZ7a.out.grown HGR.out (fun e => by have := HLT.out.2.1; injection e with e; omega))
                        have HB9 := Lib.hid (HB7a.out.grown HGR.out HB7a.out.size (fun g hg => by injection hg with hg; have := HLT.out.1; have := HH.out; omega))
                        have hs9 : Hid (q14 + 1 ≤ ((((w7.setCell ⟨q14, 0, none⟩ (.slice la0 QS.left.length cl0)).setCell ⟨q14, 1, none⟩ (.int .i64 (QS.ship : Int))).setCell ⟨q14, 2, none⟩ (.slice lc0 QS.cuts.length cc0)).setCell ⟨q14, 3, none⟩ (.int .i64 (tt : Int))).heap.size) := Lib.hid (Nat.le_trans hs7a HGR.out.size)
                        have HMN := Lib.hid (show 0 + 1 ≤ N2 from hlt2)
                        clear HCN HP7 HK7 HX7 HO7a HY7a HZ7a HB7a HGN HGR hs7a HGL HPE HLN HCS HM HQB HTT
                        go_upto_region 31 with (fail)
                        go_region_law (fail)
                        all_goals
                          go_wp2_with fail
                          go_roundw
                          case rel => exact ⟨0 + 1, _, HMN.out, rfl, by go_num, by rw [HGM.out]; exact HC9.out.up (grown_drew (grown_same _ _)), by rw [HGM.out]; exact HP9.out.below (below_drewN (Below.refl _ _) 1), HO9.out, HY9.out, HZ9.out, below_drewN HB9.out 1, hs9.out⟩
                          case measure => simp [intOf]; omega
                      have hzm : ((mk : Int) == 0) = false := by simp; omega
                      obtain ⟨nb, hnb⟩ : ∃ z, G.best.length = z := ⟨_, rfl⟩
                      obtain ⟨tg, htg⟩ : ∃ z, G.pr.tot = z := ⟨_, rfl⟩
                      have HRR : Hid (btV QS CI G = orF [Frac.cmpI (tt : Int) (tg : Int), Frac.cmpI (m : Int) (nb : Int), lexI CI G.best]) := Lib.hid (by unfold btV; rw [HTT.out, htg, HM.out, hnb])
                      have K3 := Lib.hid (compare_nats ac lb CI G.best m nb cac clb w7 HM.out hnb (by omega) (by have := HGL.out; omega) (own_nats HC1b.out) HKb.now)
                      have K1 := Lib.hid (fun w' => compare_int (tt : Int) (tg : Int) w')
                      have K2 := Lib.hid (fun w' => compare_int (m : Int) (nb : Int) w')
                      obtain ⟨laz, clz, lcz, ccz, hob, -⟩ := HP7.out
                      have p3 := hob.cell 3 _ rfl
                      have hpl := hob.lt
                      rw [htg] at p3
                      rw [hnb] at HC7 ⊢
                      obtain ⟨x0, x1, x2, x3⟩ := HX7.out.at4
                      have hxl := HX7.out.1
                      obtain ⟨A1, hA1⟩ : ∃ z, Frac.cmpI (tt : Int) (tg : Int) = z := ⟨_, rfl⟩
                      obtain ⟨A2, hA2⟩ : ∃ z, Frac.cmpI (m : Int) (nb : Int) = z := ⟨_, rfl⟩
                      obtain ⟨A3, hA3⟩ : ∃ z, lexI CI G.best = z := ⟨_, rfl⟩
                      rw [hA1] at K1 HRR
                      rw [hA2] at K2 HRR
                      rw [hA3] at K3 HRR
                      have HOR := Lib.hid (fun (w' : World) => or_any w'.heap.size [A1, A2, A3] 3 3 (w'.alloc (.cells #[.int .i64 A1, .int .i64 A2, .int .i64 A3] 3)) rfl (by omega) (heap_alloc_new w' _))
                      obtain ⟨R, hR⟩ : ∃ z, orF [A1, A2, A3] = z := ⟨_, rfl⟩
                      rw [hR] at HOR HRR
                      clear hA1 hA2 hA3 hR htg hob HKb
                      go_wp2_with fail
                      with_reducible refine (K1.out _).mono ?_
                      rintro e w8 ⟨rfl, rfl⟩
                      go_wp2_with fail
                      with_reducible refine (K2.out _).mono ?_
                      rintro e w8 ⟨rfl, rfl⟩
                      go_wp2_with fail
                      with_reducible refine K3.out.mono ?_
                      rintro e w8 ⟨rfl, rfl⟩
                      clear K1 K2 K3 p3 hpl x0 x1 x2 x3 hxl
                      have BB := (Below.refl w7.heap.size w7).alloc (Nat.le_refl _) (.cells #[.int .i64 A1, .int .i64 A2, .int .i64 A3] 3)
                      have HC8 := Lib.hid (HC7.out.below BB)
                      have HCN8 := Lib.hid (HCN.out.below BB)
                      have HP8 := Lib.hid (HP7.out.below BB)
                      have HK8 := Lib.hid (HK7.out.up (grown_of_below BB _))
                      have HX8 := Lib.hid (HX7.out.below BB)
                      have HO8 := Lib.hid (own_below HO7a.out BB)
                      have HY8 := Lib.hid (HY7a.out.below BB)
                      have HZ8 := Lib.hid (HZ7a.out.below BB)
                      have HB8 := Lib.hid (HB7a.out.trans (BB.mono HB7a.out.size))
                      have hs8 : q14 + 1 ≤ (w7.alloc (.cells #[.int .i64 A1, .int .i64 A2, .int .i64 A3] 3)).heap.size := by have := BB.size; omega
                      clear HC7 HCN HP7 HK7 HX7 HO7a HY7a HZ7a HB7a HC1b BB hs7a
                      go_wp2_with fail
                      with_reducible refine (HOR.out _).mono ?_
                      rintro e w8 ⟨rfl, rfl⟩
                      clear HOR
                      generalize w7.alloc (.cells #[.int .i64 A1, .int .i64 A2, .int .i64 A3] 3) = w8 at *
                      by_cases hR0 : R < 0
                      · have HGM : Hid (bsRf l li sp F (mk + 1) = ⟨CI, QS⟩) := Lib.hid (HGN.out.trans (if_pos (Or.inr (by rw [HRR.out]; exact hR0))))
                        obtain ⟨x0, x1, x2, x3⟩ := HX8.out.at4
                        have hxl := HX8.out.1
                        obtain ⟨laz, clz, lcz, ccz, hob, -⟩ := HP8.out
                        have z0 := hob.cell 0 _ rfl
                        have z1 := hob.cell 1 _ rfl
                        have z2 := hob.cell 2 _ rfl
                        have z3 := hob.cell 3 _ rfl
                        have f0 := hob.free 0
                        have f1 := hob.free 1
                        have f2 := hob.free 2
                        have f3 := hob.free 3
                        have hzl := hob.lt
                        clear hob
                        have HGR := Lib.hid (grown_set4 w8 q14 (.slice la0 QS.left.length cl0) (.int .i64 (QS.ship : Int)) (.slice lc0 QS.cuts.length cc0) (.int .i64 (tt : Int)))
                        have HC9 := Lib.hid (HCN8.out.up HGR.out)
                        have HP9 := Lib.hid (PrBox.set (la := la0) (lc := lc0) (cl := cl0) (cc := cc0) (S := QS) HP8.out (by rw [HTT.out]; exact HK8.out))
                        rw [HTT.out] at HP9
                        have HO9 := Lib.hid (own_grown HO8.out HGR.out (fun g hg e => by have := HLT.out.2.2 g hg; injection e with e; omega))
                        have HY9 := Lib.hid (HY8.out.grown HGR.out (fun e => by have := HLT.out.1; injection e with e; omega))
                        have HZ9 := Lib.hid (HZ8.out.grown HGR.out (fun e => by have := HLT.out.2.1; injection e with e; omega))
                        have HB9 := Lib.hid (HB8.out.grown HGR.out HB8.out.size (fun g hg => by injection hg with hg; have := HLT.out.1; have := HH.out; omega))
                        have hs9 : Hid (q14 + 1 ≤ ((((w8.setCell ⟨q14, 0, none⟩ (.slice la0 QS.left.length cl0)).setCell ⟨q14, 1, none⟩ (.int .i64 (QS.ship : Int))).setCell ⟨q14, 2, none⟩ (.slice lc0 QS.cuts.length cc0)).setCell ⟨q14, 3, none⟩ (.int .i64 (tt : Int))).heap.size) := Lib.hid (Nat.le_trans hs8 HGR.out.size)
                        have HMN := Lib.hid (show mk + 1 ≤ N2 from hlt2)
                        clear HC8 HCN8 HP8 HK8 HX8 HO8 HY8 HZ8 HB8 HGN HRR HGR hs8 HGL HPE HLN HCS HM HQB HTT
                        go_upto_region 31 with (fail)
                        go_region_law (fail)
                        all_goals
                          go_wp2_with fail
                          go_roundw
                          case rel => exact ⟨mk + 1, _, HMN.out, rfl, by go_num, by rw [HGM.out]; exact HC9.out.up (grown_drew (grown_same _ _)), by rw [HGM.out]; exact HP9.out.below (below_drewN (Below.refl _ _) 1), HO9.out, HY9.out, HZ9.out, below_drewN HB9.out 1, hs9.out⟩
                          case measure => simp [intOf]; omega
                      · have HGM : Hid (bsRf l li sp F (mk + 1) = G) := Lib.hid (HGN.out.trans (if_neg (by rw [HRR.out]; omega)))
                        clear HGN HRR
                        go_wp2_with fail
                        go_roundw
                        case rel => exact ⟨mk + 1, _, by omega, rfl, by go_num, by rw [HGM.out]; exact HC8.out, by rw [HGM.out]; exact HP8.out, HO8.out, HY8.out, HZ8.out, HB8.out, hs8⟩
                        case measure => simp [intOf]; omega
                    --@end
              · --@y1
                obtain rfl : N2 = k2 := by omega
                have HSG : Hid (SR = bsRf l li sp F N2) := Lib.hid (HS.out.trans (by
                  obtain ⟨k9, rfl⟩ : ∃ k9, N2 = k9 + 1 := ⟨N2 - 1, by omega⟩
                  rfl))
                obtain ⟨G, hG⟩ : ∃ z, bsRf l li sp F N2 = z := ⟨_, rfl⟩
                rw [hG] at HC HP HSG
                obtain ⟨lb, clb, hvb, HKb⟩ := HC.out
                subst hvb
                obtain ⟨laz, clz, lcz, ccz, hob, hkz⟩ := HP.out
                have HKZ := Lib.hid hkz
                have HKC := Lib.hid HKb
                have x0 := hob.cell 0 _ rfl
                have x1 := hob.cell 1 _ rfl
                have x2 := hob.cell 2 _ rfl
                have x3 := hob.cell 3 _ rfl
                have hxl := hob.lt
                have z0 := HZ.out.cell 0 _ rfl
                have z1 := HZ.out.cell 1 _ rfl
                have z2 := HZ.out.cell 2 _ rfl
                have z3 := HZ.out.cell 3 _ rfl
                have f0 := HZ.out.free 0
                have f1 := HZ.out.free 1
                have f2 := HZ.out.free 2
                have f3 := HZ.out.free 3
                have hzl := HZ.out.lt
                have hsl := HSL.out
                have HGR := Lib.hid (grown_set4 wr qz (.slice laz G.pr.left.length clz) (.int .i64 (G.pr.ship : Int)) (.slice lcz G.pr.cuts.length ccz) (.int .i64 (G.pr.tot : Int)))
                have HBS := Lib.hid (HB.out.grown HGR.out HB.out.size (fun g hg => by injection hg with hg; have h1 := HH.out; have h2 := HQR.out; omega))
                have HF1 := Lib.hid (HKC.out.last HGR.out)
                have HF2 := Lib.hid (HKZ.out.last HGR.out)
                clear hG hob hkz HKb HKC HKZ HC HP HO HY HZ HB HGR
                go_upto_region 33 with (fail)
                go_region_law (fail)
                all_goals
                  go_wp2_with fail
                  refine bodyPost_ret (v := .tuple #[.slice lb G.best.length clb, .agg #[.slice laz G.pr.left.length clz, .int .i64 (G.pr.ship : Int), .slice lcz G.pr.cuts.length ccz, .int .i64 (G.pr.tot : Int)], .int .i64 0]) (by simp [results, Tryz.results19, go_sem, z0, z1, z2, z3]) rfl ?_
                  exact ⟨_, _, rfl, by rw [HSG.out]; exact ⟨⟨lb, clb, rfl, HF1.out⟩, HF2.out⟩, below_drewN HBS.out 1⟩
                --@end
  · --@t1
    obtain rfl : V = W := HOC.out.1 hW0
    obtain rfl : E = V := HE.out.trans (if_neg hW0)
    have HS := Lib.hid (show SR = ⟨[], ⟨[], 0, []⟩⟩ from HSR.out.trans (if_neg hW0))
    have e1 : (E == 0) = false := by simpa using hW0
    have e2 : (E != 0) = true := by simpa using hW0
    clear hW0
    have z0 := HZ2.out.cell 0 _ rfl
    have z1 := HZ2.out.cell 1 _ rfl
    have z2 := HZ2.out.cell 2 _ rfl
    have z3 := HZ2.out.cell 3 _ rfl
    have f0 := HZ2.out.free 0
    have f1 := HZ2.out.free 1
    have f2 := HZ2.out.free 2
    have f3 := HZ2.out.free 3
    have hzl := HZ2.out.lt
    have HBS := Lib.hid (HB2.out.grown (grown_set4 wc qz (.slice none 0 0) (.int .i64 0) (.slice none 0 0) (.int .i64 0)) HB2.out.size (fun g hg => by injection hg with hg; have h1 := HH.out; have h2 := HQR.out; omega))
    go_wp2_with fail
    refine bodyPost_ret (v := .tuple #[.slice none 0 0, .agg #[.slice none 0 0, .int .i64 0, .slice none 0 0, .int .i64 0], .int .i64 E]) (by simp [results, Tryz.results19, go_sem, z0, z1, z2, z3]) rfl ?_
    exact ⟨_, _, rfl, by rw [HS.out]; exact ⟨⟨none, 0, rfl, fun j hj => by simp at hj⟩, prc_zero _ _⟩, HBS.out⟩
    --@end
end Go.Proofs.YtdefjnefkdemiaaGreatDoor
