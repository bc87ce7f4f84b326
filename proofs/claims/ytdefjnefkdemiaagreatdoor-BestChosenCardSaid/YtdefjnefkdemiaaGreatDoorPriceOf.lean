/- handref1.PriceOf (printed by gen_priceof.py). -/
import Derived.Test.YtdefjnefkdemiaaGreatDoorM6
import Derived.Test.YtdefjnefkdemiaaGreatDoorApplied
import Derived.Test.YtdefjnefkdemiaaGreatDoorM3
import Derived.Deep.RegionWith
set_option linter.unusedVariables false
namespace Go.Proofs.YtdefjnefkdemiaaGreatDoor
open Go.RowKit Go.Sort

theorem orE_chk (e1 e2 : Int) (b : Bool) : (orE [e1, e2] ≠ 0 → chkV e1 e2 b = orE [e1, e2]) ∧ (orE [e1, e2] = 0 → chkV e1 e2 b = if b = true then 0 else 1) := by
  unfold orE orE orE chkV
  by_cases h1 : e1 = 0
  · rw [if_pos h1, if_pos h1]
    by_cases h2 : e2 = 0
    · rw [if_pos h2, if_pos h2]; exact ⟨fun h => absurd rfl h, fun _ => rfl⟩
    · rw [if_neg h2, if_neg h2]; exact ⟨fun _ => rfl, fun h => absurd h h2⟩
  · rw [if_neg h1, if_neg h1]
    exact ⟨fun _ => rfl, fun h => absurd h h1⟩
theorem srtO_any (l : List Of) (f : Of → Bool) : (srtO l).any f = l.any f := by
  rw [Bool.eq_iff_iff, List.any_eq_true, List.any_eq_true]
  exact ⟨fun ⟨x, h, k⟩ => ⟨x, (srtO_mem l x).1 h, k⟩, fun ⟨x, h, k⟩ => ⟨x, (srtO_mem l x).2 h, k⟩⟩

set_option maxRecDepth 100000 in
set_option maxHeartbeats 16000000 in
theorem PriceOf_any (a : Option Addr) (l : List Of) (n c : Nat) (ai : Option Addr) (li : List It) (ni ci : Nat) (ship t : Int) (w : World) (hn : l.length = n) (hn1 : n ≤ 12) (hc : n ≤ c) (hc' : c ≤ maxLen) (hI : RAt w a 12 Of.cells l) (hTG : TagsAt Of.tv Of.tags w l) (hok : ∀ x ∈ l, x.ok)
    (hni : li.length = ni) (hni1 : ni < 20) (hci : ni ≤ ci) (hci' : ci ≤ maxLen) (hIi : RAt w ai 4 It.cells li) (hTi : TagsAt It.tv It.tags w li) (hoki : ∀ y ∈ li, y.ok) :
    Calls Tryz.prog 14 #[.slice a n c, .agg #[.slice ai ni ci, .int .i64 ship], .int .i64 t] w fun e w' => ∃ v, e = .returned (.tuple #[v, .int .i64 (bkPrE l li ship t)]) ∧ PrcAt w' w.heap.size v (bkPrS l li ship t) ∧ Below w.heap.size w w' := by
  obtain ⟨i0, hi, hz0, hz1, hz2⟩ := info_parts infoP_int
  obtain ⟨j0, hj, hy0, hy1, hy2⟩ := info_parts infoTk
  have C1 := Lib.hid (fun w' (hb : Below w.heap.size w w') => OffersFault_any a l n c w' hn (by omega) hc hc' (hI.below hb) (hTG.below hb) hok)
  have C2 := Lib.hid (fun w' (hb : Below w.heap.size w w') => BasketFault_any ai li ni ci ship w' hni (by omega) hci hci' (hIi.below hb) (hTi.below hb) hoki)
  have CM := Lib.hid (rMoment_any t)
  have CT := Lib.hid (fun w' (hb : Below w.heap.size w w') => TogetherOf_any a l n c w' hn (by omega) hc hc' (hI.below hb))
  have CL := Lib.hid (fun w' (hb : Below w.heap.size w w') => cloneOf_any a l n c w' hn (by omega) (hI.below hb))
  have HOR := Lib.hid (fun (w' : World) => orErr_any w'.heap.size [ofE l, bkE li ship] 2 2 43 (w'.alloc (.cells #[.int .i64 (ofE l), .int .i64 (bkE li ship)] 43)) rfl (by omega) (heap_alloc_new _ _))
  have HOC := Lib.hid (orE_chk (ofE l) (bkE li ship) (wB t 0 4321439))
  have HOF := Lib.hid (fun (h0 : chkV (ofE l) (bkE li ship) (wB t 0 4321439) = 0) => And.intro (ofE_ok (chkV_0 h0).1) (And.intro (bkE_its (chkV_0 h0).2.1) (bkE_ship (chkV_0 h0).2.1)))
  have HX := Lib.hid (fun (x : Of) (hx : x ∈ srtO l) => And.intro (hok x ((srtO_mem l x).1 hx)) (And.intro ((srtO_mem l x).1 hx) (hTG x ((srtO_mem l x).1 hx))))
  have HLI := Lib.hid (And.intro hni (And.intro hIi (And.intro hTi hoki)))
  have HN := Lib.hid hn
  have HANY := Lib.hid (srtO_any l (nfB li ship t))
  obtain ⟨E, hE⟩ : ∃ E, bkPrE l li ship t = E := ⟨_, rfl⟩
  obtain ⟨SR, hSR⟩ : ∃ s, bkPrS l li ship t = s := ⟨_, rfl⟩
  rw [hE, hSR]
  obtain ⟨V, hV⟩ : ∃ V, chkV (ofE l) (bkE li ship) (wB t 0 4321439) = V := ⟨_, rfl⟩
  obtain ⟨T, hT⟩ : ∃ T, togB l = T := ⟨_, rfl⟩
  obtain ⟨NF, hNF⟩ : ∃ b, l.any (nfB li ship t) = b := ⟨_, rfl⟩
  have HE : Hid (E = if V = 0 then (if T = true then (if NF = true then 11 else 0) else 16) else V) := Lib.hid (by rw [← hE, ← hV, ← hT, ← hNF]; rfl)
  have HSR : Hid (SR = if E = 0 then goP li (startP li ship) (srtO l) n else ⟨[], 0, []⟩) := Lib.hid (by rw [← hSR, ← hE, ← hn]; rfl)
  rw [hV] at HOC HOF
  rw [hT] at CT
  rw [hNF] at HANY
  clear hE hSR hV hT hNF hn hI hTG hok hni hIi hTi hoki hc'
  obtain ⟨b, hb⟩ : ∃ b, wB t 0 4321439 = b := ⟨_, rfl⟩
  obtain ⟨E1, hE1⟩ : ∃ z, ofE l = z := ⟨_, rfl⟩
  obtain ⟨E2, hE2⟩ : ∃ z, bkE li ship = z := ⟨_, rfl⟩
  rw [hb] at HOC CM
  rw [hE1] at C1 HOR HOC
  rw [hE2] at C2 HOR HOC
  obtain ⟨W, hW⟩ : ∃ z, orE [E1, E2] = z := ⟨_, rfl⟩
  rw [hW] at HOR HOC
  clear hb hE1 hE2 hW
  obtain ⟨H, hH⟩ : ∃ H, w.heap.size = H := ⟨_, rfl⟩
  have HY0 := Lib.hid ((XB.new w [.slice ai ni ci, .int .i64 ship] 30).alloc (.cells #[.slice none 0 0, .int .i64 0, .slice none 0 0, .int .i64 0] 42))
  have HZ0 := Lib.hid (OB.new (w.alloc (.cells #[.slice ai ni ci, .int .i64 ship] 30)) [.slice none 0 0, .int .i64 0, .slice none 0 0, .int .i64 0] 42)
  have HB0 := Lib.hid (((Below.refl w.heap.size w).alloc (Nat.le_refl _) (.cells #[.slice ai ni ci, .int .i64 ship] 30)).alloc (by simp) (.cells #[.slice none 0 0, .int .i64 0, .slice none 0 0, .int .i64 0] 42))
  simp only [List.toArray] at HY0 HZ0
  have hz1' : (w.alloc (.cells #[.slice ai ni ci, .int .i64 ship] 30)).heap.size = w.heap.size + 1 := by simp
  obtain ⟨qz, hqz⟩ : ∃ q, H + 1 = q := ⟨_, rfl⟩
  rw [hz1', hH, hqz] at HZ0
  rw [hH] at HY0
  have HH := Lib.hid hH
  have HQR : Hid (qz = H + 1) := Lib.hid (by omega)
  clear hz1'
  go_enter Tryz.func14, Tryz.ntmps14
  go_upto_region 1 with (fail)
  generalize (w.alloc (.cells #[.slice ai ni ci, .int .i64 ship] 30)).alloc (.cells #[.slice none 0 0, .int .i64 0, .slice none 0 0, .int .i64 0] 42) = w1 at *
  clear hH hqz
  go_cut [8] (fun u wx => u = .int .i64 W ∧ XB wx H [.slice ai ni ci, .int .i64 ship] ∧ OB wx qz [.slice none 0 0, .int .i64 0, .slice none 0 0, .int .i64 0] 42 ∧ Below w.heap.size w wx)
  case first =>
    obtain ⟨y0, y1⟩ := HY0.out.at2'
    have hyl := HY0.out.1
    have HBd := Lib.hid HB0.out.drew
    have CA := Lib.hid (C1.out w1.drew HBd.out)
    go_region_with (first | (go_at_call 34; refine CA.out.mono ?_; rintro e w3 ⟨rfl, b3⟩; have HB3 := Lib.hid (HBd.out.trans (b3.mono HBd.out.size)); have HY3 := Lib.hid ((HY0.out.drewN 1).below b3); have y30 := HY3.out.2 0 _ rfl; have y31 := HY3.out.2 1 _ rfl; have hyl3 := HY3.out.1; have HZ3 := Lib.hid ((HZ0.out.drewN 1).below b3); clear b3) | (go_at_call 35; refine (C2.out _ HB3.out).mono ?_; rintro e w4 ⟨rfl, b4⟩; have HB4 := Lib.hid (HB3.out.trans (b4.mono HB3.out.size)); have HY4 := Lib.hid (HY3.out.below b4); have HZ4 := Lib.hid (HZ3.out.below b4); clear b4) | (go_at_call 33; refine (HOR.out w4).mono ?_; rintro e w5 ⟨rfl, rfl⟩))
    all_goals
      go_wp2_with fail
      go_meet
      exact ⟨rfl, HY4.out.alloc _, HZ4.out.alloc _, HB4.out.alloc HB4.out.size _⟩
  case rest =>
  obtain ⟨rfl, hy2', hz2', hb2'⟩ := hcut
  have HY2 := Lib.hid hy2'
  have HZ2 := Lib.hid hz2'
  have HB2 := Lib.hid hb2'
  clear hy2' hz2' hb2' HY0 HZ0 HB0 C1 C2 HOR
  by_cases hW0 : W = 0
  · subst hW0
    have HVV := Lib.hid (HOC.out.2 (by trivial))
    go_wp2_with fail
    with_reducible refine (CM.out _).mono ?_
    rintro e w3 ⟨rfl, rfl⟩
    cases b with
    | false =>
      as_aux_lemma =>
        obtain rfl : V = 1 := HVV.out
        obtain rfl : E = 1 := HE.out
        have HS := Lib.hid (show SR = ⟨[], 0, []⟩ from HSR.out)
        have z0 := HZ2.out.cell 0 _ rfl
        have z1 := HZ2.out.cell 1 _ rfl
        have z2 := HZ2.out.cell 2 _ rfl
        have z3 := HZ2.out.cell 3 _ rfl
        have f0 := HZ2.out.free 0
        have f1 := HZ2.out.free 1
        have f2 := HZ2.out.free 2
        have f3 := HZ2.out.free 3
        have hzl := HZ2.out.lt
        have HBS := Lib.hid (HB2.out.grown (grown_set4 wc qz (.slice none 0 0) (.int .i64 0) (.slice none 0 0) (.int .i64 0)) HB2.out.size (fun g hg => by injection hg with hg; have h1 := HH.out; have h2 := HQR.out; omega))
        go_wp2_with fail
        refine bodyPost_ret (v := .tuple #[.agg #[.slice none 0 0, .int .i64 0, .slice none 0 0, .int .i64 0], .int .i64 1]) (by simp [results, Tryz.results14, go_sem, z0, z1, z2, z3]) rfl ?_
        exact ⟨_, rfl, by rw [HS.out]; exact prc_zero _ _, HBS.out⟩
    | true =>
      obtain rfl : V = 0 := HVV.out
      go_wp2_with fail
      with_reducible refine (CT.out _ HB2.out).mono ?_
      rintro e w3 ⟨rfl, b3⟩
      have HB3 := Lib.hid (HB2.out.trans (b3.mono HB2.out.size))
      have HY3 := Lib.hid (HY2.out.below b3)
      have HZ3 := Lib.hid (HZ2.out.below b3)
      clear b3 CT HB2 HY2 HZ2 CM HOC HVV
      cases T with
      | false =>
        as_aux_lemma =>
          obtain rfl : E = 16 := HE.out
          have HS := Lib.hid (show SR = ⟨[], 0, []⟩ from HSR.out)
          have z0 := HZ3.out.cell 0 _ rfl
          have z1 := HZ3.out.cell 1 _ rfl
          have z2 := HZ3.out.cell 2 _ rfl
          have z3 := HZ3.out.cell 3 _ rfl
          have f0 := HZ3.out.free 0
          have f1 := HZ3.out.free 1
          have f2 := HZ3.out.free 2
          have f3 := HZ3.out.free 3
          have hzl := HZ3.out.lt
          have HBS := Lib.hid (HB3.out.grown (grown_set4 w3 qz (.slice none 0 0) (.int .i64 0) (.slice none 0 0) (.int .i64 0)) HB3.out.size (fun g hg => by injection hg with hg; have h1 := HH.out; have h2 := HQR.out; omega))
          go_wp2_with fail
          refine bodyPost_ret (v := .tuple #[.agg #[.slice none 0 0, .int .i64 0, .slice none 0 0, .int .i64 0], .int .i64 16]) (by simp [results, Tryz.results14, go_sem, z0, z1, z2, z3]) rfl ?_
          exact ⟨_, rfl, by rw [HS.out]; exact prc_zero _ _, HBS.out⟩
      | true =>
        have C := Lib.hid (CL.out w3 HB3.out)
        clear CL
        go_wp2_with fail
        with_reducible refine C.out.mono ?_
        rintro e w4 ⟨v4, rfl, own4, b4⟩
        obtain ⟨a2, c2, rfl, -, -⟩ := own_form own4
        have CS := Lib.hid (sortOR_any _ w4 a2 n c2 l own4 HN.out hn1)
        have HA4 := Lib.hid own4
        have HB4 := Lib.hid (HB3.out.trans (b4.mono HB3.out.size))
        have HY4 := Lib.hid (HY3.out.below b4)
        have HZ4 := Lib.hid (HZ3.out.below b4)
        have HW3 := Lib.hid (And.intro HY3.out.1 HZ3.out.lt)
        clear own4 b4 C HB3 HY3 HZ3
        go_wp2_with fail
        with_reducible refine CS.out.mono ?_
        rintro e w5 ⟨rfl, own5, gr5⟩
        rw [HN.out] at own5
        obtain ⟨b5, hb5⟩ : ∃ b, w3.heap.size = b := ⟨_, rfl⟩
        rw [hb5] at own5 HA4 HW3
        have HA5 := Lib.hid own5
        have HB5 := Lib.hid (HB4.out.grown gr5 HB4.out.size (fun q hq => by have h1 := (HA4.out.lt q hq).1; have h2 := HW3.out; have h3 := HH.out; omega))
        have HY5 := Lib.hid (HY4.out.grown gr5 (fun hq => by have h1 := (HA4.out.lt _ hq).1; have h2 := HW3.out; omega))
        have HZ5 := Lib.hid (HZ4.out.grown gr5 (fun hq => by have h1 := (HA4.out.lt _ hq).1; have h2 := HW3.out; omega))
        have hb59 : H + 1 < b5 := by have h2 := HW3.out; have := HQR.out; omega
        clear own5 gr5 CS HA4 HB4 HY4 HZ4 HW3 hb5
        obtain ⟨hof, hit, hsh0, hsh9⟩ := HOF.out (by trivial)
        obtain ⟨sp, hsp⟩ : ∃ sp : Nat, ship = sp := ⟨ship.toNat, by omega⟩
        have HIT := Lib.hid hit
        have HOF2 := Lib.hid hof
        subst hsp
        have HINV := Lib.hid ((PrI.start li sp hit).go li (srtO l))
        have HSL := Lib.hid ((srtO_len l).trans HN.out)
        obtain ⟨s0, hs0⟩ : ∃ s, startP li sp = s := ⟨_, rfl⟩
        have HS0 : Hid (s0.left = li.map (fun y => (y.cents * y.many).toNat) ∧ s0.ship = sp ∧ s0.cuts = []) := Lib.hid (by rw [← hs0]; exact ⟨rfl, rfl, rfl⟩)
        have HSTEP := Lib.hid (fun k hk => goP_succ li s0 (srtO l) k hk)
        rw [hs0] at HINV HSR
        have hs : sp ≤ 1000000000000 := by omega
        clear hs0 HOF hit hof hsh0 hsh9
        have HP5 := Lib.hid (OB.new w5 [.slice none 0 0, .int .i64 (sp : Int), .slice none 0 0, .int .i64 0] 42)
        have HBA := (Below.refl w5.heap.size w5).alloc (Nat.le_refl _) (.cells #[.slice none 0 0, .int .i64 (sp : Int), .slice none 0 0, .int .i64 0] 42)
        have HA6 := Lib.hid (own_below HA5.out HBA)
        have HB6 := Lib.hid (HB5.out.alloc HB5.out.size (.cells #[.slice none 0 0, .int .i64 (sp : Int), .slice none 0 0, .int .i64 0] 42))
        have HY6 := Lib.hid (HY5.out.alloc (.cells #[.slice none 0 0, .int .i64 (sp : Int), .slice none 0 0, .int .i64 0] 42))
        have HZ6 := Lib.hid (HZ5.out.alloc (.cells #[.slice none 0 0, .int .i64 (sp : Int), .slice none 0 0, .int .i64 0] 42))
        have HAB : Hid (∀ g, (Value.slice a2 n c2).ownBlock = some g → b5 ≤ g ∧ g < w5.heap.size) := Lib.hid (fun g hg => HA5.out.lt g hg)
        have hqz5 : qz < w5.heap.size := HZ5.out.lt
        have hH5 : H < w5.heap.size := HY5.out.1
        have hsa : (w5.alloc (.cells #[.slice none 0 0, .int .i64 (sp : Int), .slice none 0 0, .int .i64 0] 42)).heap.size = w5.heap.size + 1 := by simp
        simp only [List.toArray] at HP5
        obtain ⟨y0, y1⟩ := HY5.out.at2'
        have hyl := HY5.out.1
        clear HA5 HB5 HZ5 HBA
        go_upto_region 11 with (fail)
        generalize w5.alloc (.cells #[.slice none 0 0, .int .i64 (sp : Int), .slice none 0 0, .int .i64 0] 42) = w6 at *
        obtain ⟨qp, hqp⟩ : ∃ q, w5.heap.size = q := ⟨_, rfl⟩
        rw [hqp] at HP5 HAB hqz5 hH5 hsa
        try rw [hqp]
        have hb5p : b5 ≤ qp ∨ ∀ g, (Value.slice a2 n c2).ownBlock ≠ some g := by
          cases hv : (Value.slice a2 n c2).ownBlock with
          | none => exact .inr (fun g h => by cases h)
          | some g => have := HAB.out g hv; exact .inl (by omega)
        have HQP := Lib.hid (And.intro hqz5 (And.intro hH5 hsa))
        clear hqp y0 y1 hyl HY5
        obtain ⟨y0, y1⟩ := HY6.out.at2'
        have hyl := HY6.out.1
        go_wp2_with fail
        clear y0 y1 hyl hsa
        go_loopw [11, 46] (fun _ i wr => ∃ (k : Nat) (v : Value), k ≤ ni ∧ i = .int .i64 k ∧ OB wr qp [v, .int .i64 (sp : Int), .slice none 0 0, .int .i64 0] 42 ∧ wr.ownsRow (qp + 1) 3 1 v k (natV (s0.left.take k)) ∧ wr.ownsRow b5 37 12 (.slice a2 n c2) n ((srtO l).flatMap Of.cells) ∧ XB wr H [.slice ai ni ci, .int .i64 (sp : Int)] ∧ OB wr qz [.slice none 0 0, .int .i64 0, .slice none 0 0, .int .i64 0] 42 ∧ Below w.heap.size w wr ∧ qp + 1 ≤ wr.heap.size) (fun _ i _ => ni - (intOf i).toNat)
        case atStart => exact ⟨0, _, Nat.zero_le _, rfl, HP5.out, World.ownsRow_nil _ _ _ _, HA6.out, HY6.out, HZ6.out, HB6.out, by have := HQP.out; omega⟩
        case round =>
          obtain ⟨k, v, hk, rfl, hP, own, hA, hY, hZ, hB, hsz⟩ := hrel
          have HP := Lib.hid hP
          have HO := Lib.hid own
          have HA := Lib.hid hA
          have HY := Lib.hid hY
          have HZ := Lib.hid hZ
          have HB := Lib.hid hB
          clear HP5 HA6 HY6 HZ6 HB6 hP own hA hY hZ
          by_cases hlt : k < ni
          · as_aux_lemma =>
              --@r1
              have hkl : k < li.length := by have := HLI.out.1; omega
              obtain ⟨p2, off2, hai, hp2, c0, c1, c2', c3'⟩ := (HLI.out.2.1.below hB).at4 hkl (v0 := .string li[k].key) (v1 := .int .i64 li[k].cents) (v2 := .int .i64 li[k].many) (v3 := .slice li[k].tv li[k].tags.length li[k].tc) rfl
              have HLK : Hid (s0.left.take (k + 1) = s0.left.take k ++ [(li[k].cents * li[k].many).toNat]) := Lib.hid (by
                have hkz : k < s0.left.length := by rw [HS0.out.1]; simpa using hkl
                rw [List.take_succ_eq_append_getElem hkz]
                congr 1
                simp only [HS0.out.1, List.getElem_map])
              obtain ⟨l0, l9⟩ := line_bd (HIT.out li[k] (List.getElem_mem hkl))
              generalize li[k] = y at *
              obtain ⟨yk, yc, ym, yv, ytc, yt⟩ := y
              simp only at c0 c1 c2' c3' HLK l0 l9
              obtain ⟨z, hz⟩ : ∃ z : Nat, yc * ym = z := ⟨(yc * ym).toNat, by omega⟩
              rw [hz, Int.toNat_natCast] at HLK
              rw [hz] at l0 l9
              have HBa := Lib.hid ((HB.out.alloc HB.out.size (.cells #[.string yk, .int .i64 yc, .int .i64 ym, .slice yv yt.length ytc] 60)).alloc (Nat.le_trans HB.out.size (by simp)) (.cells #[.int .i64 (z : Int)] 3))
              have X0 := Lib.hid (XB.new wr [.string yk, .int .i64 yc, .int .i64 ym, .slice yv yt.length ytc] 60)
              have HPa := Lib.hid (HP.out.alloc (.cells #[.string yk, .int .i64 yc, .int .i64 ym, .slice yv yt.length ytc] 60))
              have HPb := Lib.hid ((HP.out.alloc (.cells #[.string yk, .int .i64 yc, .int .i64 ym, .slice yv yt.length ytc] 60)).alloc (.cells #[.int .i64 (z : Int)] 3))
              have HZb := Lib.hid ((HZ.out.alloc (.cells #[.string yk, .int .i64 yc, .int .i64 ym, .slice yv yt.length ytc] 60)).alloc (.cells #[.int .i64 (z : Int)] 3))
              have HYb := Lib.hid ((HY.out.alloc (.cells #[.string yk, .int .i64 yc, .int .i64 ym, .slice yv yt.length ytc] 60)).alloc (.cells #[.int .i64 (z : Int)] 3))
              have HBB := ((Below.refl wr.heap.size wr).alloc (Nat.le_refl _) (.cells #[.string yk, .int .i64 yc, .int .i64 ym, .slice yv yt.length ytc] 60)).alloc (by simp) (.cells #[.int .i64 (z : Int)] 3)
              have HOb := Lib.hid (own_below HO.out HBB)
              have HAb := Lib.hid (own_below HA.out HBB)
              have HNW : Hid (∀ j u, ([.int .i64 (z : Int)] : List Value)[j]? = some u → ((wr.alloc (.cells #[.string yk, .int .i64 yc, .int .i64 ym, .slice yv yt.length ytc] 60)).alloc (.cells #[.int .i64 (z : Int)] 3)).cell? ((⟨(wr.alloc (.cells #[.string yk, .int .i64 yc, .int .i64 ym, .slice yv yt.length ytc] 60)).heap.size, 0, none⟩ : Addr).add j) = some u) := Lib.hid (fun j u h => World.news_of_block (heap_alloc_new (wr.alloc (.cells #[.string yk, .int .i64 yc, .int .i64 ym, .slice yv yt.length ytc] 60)) (.cells #[.int .i64 (z : Int)] 3)) j u h)
              have HSb : Hid (qp + 1 ≤ ((wr.alloc (.cells #[.string yk, .int .i64 yc, .int .i64 ym, .slice yv yt.length ytc] 60)).alloc (.cells #[.int .i64 (z : Int)] 3)).heap.size) := Lib.hid (by rw [World.size_alloc, World.size_alloc]; omega)
              have HOB : Hid (∀ g, v.ownBlock = some g → qp + 1 ≤ g) := Lib.hid (fun g hg => (HO.out.lt g hg).1)
              simp only [List.toArray] at X0
              have hza : (wr.alloc (.cells #[.string yk, .int .i64 yc, .int .i64 ym, .slice yv yt.length ytc] 60)).heap.size = wr.heap.size + 1 := by simp
              have hw9 : IntKind.i64.wrap (z : Int) = (z : Int) := by rw [IntKind.wrap_i64]; omega
              have hmy : k + 1 ≤ maxLen := by unfold maxLen; omega
              have hmb : (k + 1) * 8 ≤ 140737488355328 := by omega
              rw [hza] at HNW
              subst hai
              clear hB HP HO HA HY HZ HB HBB
              go_upto_region 14 with (fail)
              generalize wr.alloc (.cells #[.string yk, .int .i64 yc, .int .i64 ym, .slice yv yt.length ytc] 60) = w7 at *
              obtain ⟨qb, hqb⟩ : ∃ qb, wr.heap.size = qb := ⟨_, rfl⟩
              rw [hqb] at X0 hza HNW
              try rw [hqb]
              clear c0 c1 c2' c3' hp2 hqb
              obtain ⟨y0, y1, y2, y3⟩ := X0.out.at4
              have hyl := X0.out.1
              have p0 := HPa.out.cell 0 _ rfl
              have hpl := HPa.out.lt
              go_wp2_with (first | (at_builtin; refine wpList_append_lies _ rfl _ _ 22 rfl (qp + 1) 3 i0 _ 1 8 Tryz.underlying22 hi hz0 hz1 hz2 rfl (by decide) v k _ rfl HOb.out ⟨qb + 1, 0, none⟩ 1 1 [.int .i64 (z : Int)] rfl rfl HNW.out ?ca2 Nat.one_pos hmy hmb HSb.out _ rfl ?_))
              case ca2 => simp [Value.oneCell']
              intro gq cq w8 own8 grow8 at8 lt8
              have HO9 : Hid (w8.ownsRow (qp + 1) 3 1 (.slice (some ⟨gq, 0, none⟩) (k + 1) cq) (k + 1) (natV (s0.left.take (k + 1)))) := Lib.hid (by rw [HLK.out]; simpa [natV] using own8)
              have hg3 : qp + 1 ≤ gq := (own8.lt gq (by simp [Value.ownBlock])).1
              have HP8 := Lib.hid (HPb.out.grown grow8 (fun e => by have := HOB.out _ e; omega))
              have HPS := Lib.hid (HP8.out.put (cs' := [.slice (some ⟨gq, 0, none⟩) (k + 1) cq, .int .i64 (sp : Int), .slice none 0 0, .int .i64 0]) 0 (.slice (some ⟨gq, 0, none⟩) (k + 1) cq) rfl)
              have HGS := Lib.hid (grown_set (grown_same w8 (some qp)) (p := ⟨qp, 0, none⟩) (.inl rfl) (.slice (some ⟨gq, 0, none⟩) (k + 1) cq))
              have HZS := Lib.hid ((HZb.out.grown grow8 (fun e => by have := HOB.out _ e; have := HQP.out; omega)).grown HGS.out (by have := HQP.out; simp; omega))
              have HYS := Lib.hid ((HYb.out.grown grow8 (fun e => by have := HOB.out _ e; have := HQP.out; omega)).grown HGS.out (by have := HQP.out; simp; omega))
              have HAS := Lib.hid (own_grown (own_grown HAb.out grow8 (fun g hg e => by have h1 := HAB.out g hg; have h2 := HOB.out g e; omega)) HGS.out (fun g hg e => by injection e with e; have h1 := HAB.out g hg; omega))
              have HOS := Lib.hid (own_grown HO9.out HGS.out (fun g hg e => by injection e with e; have h1 := (HO9.out.lt g hg).1; omega))
              have HBS := Lib.hid ((HBa.out.grown grow8 HBa.out.size (fun g hg => by have := HOB.out g hg; have := HH.out; have := HQP.out; omega)).grown HGS.out (Nat.le_trans HBa.out.size grow8.size) (fun g hg => by injection hg with hg; have := HH.out; have := HQP.out; omega))
              have HSS := Lib.hid (Nat.le_trans HSb.out grow8.size)
              have p8 := HP8.out.cell 0 _ rfl
              have f8 := HP8.out.free 0
              have l8 := HP8.out.lt
              clear own8 grow8 at8 lt8 HO9 HP8 HPa HPb HZb HYb HAb HOb HBa HNW HSb X0 y0 y1 y2 y3 hyl p0 hpl hza
              go_wp2_with fail
              go_roundw
              case rel => exact ⟨k + 1, _, by omega, by go_num, HPS.out, HOS.out, HAS.out, HYS.out, HZS.out, HBS.out, by simpa [World.setCell] using HSS.out⟩
              case measure => simp [intOf]; omega
              --@end
          · obtain rfl : k = ni := by omega
            have hl0 : s0.left.length = k := by rw [HS0.out.1]; simpa using HLI.out.1
            have HOw : Hid (wr.ownsRow (qp + 1) 3 1 v k (natV s0.left)) := Lib.hid (by
              have h := HO.out
              rw [List.take_of_length_le (by omega)] at h
              exact h)
            obtain ⟨la, cl, hv, hcl, -⟩ := own_form HOw.out
            subst hv
            have HCL := Lib.hid hcl
            obtain ⟨b4, hb4⟩ : ∃ b, wr.heap.size = b := ⟨_, rfl⟩
            have HLB : Hid (∀ g, (Value.slice la k cl).ownBlock = some g → qp + 1 ≤ g ∧ g < b4) := Lib.hid (fun g hg => by have := HOw.out.lt g hg; omega)
            have HB4 : Hid (b4 ≤ wr.heap.size) := Lib.hid (by omega)
            have hb49 : qp < b4 := by omega
            have HG0 : Hid (goP li s0 (srtO l) 0 = s0) := Lib.hid rfl
            clear hb4 hcl HO hB
            go_wp2_with fail
            go_loopw [13, 63] (fun _ i wr => ∃ (j : Nat) (cv : Value), j ≤ n ∧ i = .int .i64 j ∧ OB wr qp [.slice la k cl, .int .i64 ((goP li s0 (srtO l) j).ship : Nat), cv, .int .i64 0] 42 ∧ wr.ownsRow (qp + 1) 3 1 (.slice la k cl) k (natV (goP li s0 (srtO l) j).left) ∧ (goP li s0 (srtO l) j).cuts.length = j ∧ wr.ownsRow b4 79 2 cv j ((goP li s0 (srtO l) j).cuts.flatMap TkC) ∧ wr.ownsRow b5 37 12 (.slice a2 n c2) n ((srtO l).flatMap Of.cells) ∧ XB wr H [.slice ai k ci, .int .i64 (sp : Int)] ∧ OB wr qz [.slice none 0 0, .int .i64 0, .slice none 0 0, .int .i64 0] 42 ∧ Below w.heap.size w wr ∧ b4 ≤ wr.heap.size ∧ ((srtO l).take j).any (nfB li sp t) = false) (fun _ i _ => n - (intOf i).toNat)
            case atStart =>
              refine ⟨0, .slice none 0 0, Nat.zero_le _, rfl, ?_, ?_, ?_, ?_, HA.out, HY.out, HZ.out, HB.out, HB4.out, rfl⟩
              · rw [HG0.out, HS0.out.2.1]; exact HP.out
              · rw [HG0.out]; exact HOw.out
              · rw [HG0.out, HS0.out.2.2]; rfl
              · rw [HG0.out, HS0.out.2.2]; exact World.ownsRow_nil _ _ _ _
            case round =>
              obtain ⟨j, cv, hj', rfl, hP, hO, hcl, hC, hA, hY, hZ, hB, hsz, hany⟩ := hrel
              clear HP HOw HA HY HZ HB HB4
              have HP := Lib.hid hP
              have HO := Lib.hid hO
              have HC := Lib.hid hC
              have HA := Lib.hid hA
              have HY := Lib.hid hY
              have HZ := Lib.hid hZ
              have HB := Lib.hid hB
              have HLC := Lib.hid hcl
              have HAN := Lib.hid hany
              have HINJ := Lib.hid (HINV.out j)
              clear hP hO hcl hC hY hZ hB hany
              by_cases hlt : j < n
              · as_aux_lemma =>
                  --@r2
                  have hjl : j < (srtO l).length := by have := HSL.out; omega
                  have HST := Lib.hid (HSTEP.out j hjl)
                  have HXM := Lib.hid (HX.out (srtO l)[j] (List.getElem_mem hjl))
                  have HXF := Lib.hid (HOF2.out (srtO l)[j] (HXM.out.2.1))
                  have HTK : Hid (((srtO l).take (j + 1)).any (nfB li sp t) = (((srtO l).take j).any (nfB li sp t) || nfB li sp t (srtO l)[j])) := Lib.hid (by rw [List.take_succ_eq_append_getElem hjl, List.any_append]; simp)
                  have HMEM : Hid (nfB li sp t (srtO l)[j] = true → NF = true) := Lib.hid (fun h => by rw [← HANY.out, List.any_eq_true]; exact ⟨_, List.getElem_mem hjl, h⟩)
                  have hR := own_rat hA HSL.out (fun x _ => x.len)
                  obtain ⟨p3, off3, rfl, hp3, c0, c1, c2', c3', c4, c5, c6, c7, c8, c9, c10, c11⟩ := hR.at12 hjl (v0 := .string (srtO l)[j].key) (v1 := .int .i64 (srtO l)[j].kind) (v2 := .int .i64 (srtO l)[j].a) (v3 := .int .i64 (srtO l)[j].b) (v4 := .slice (srtO l)[j].tv (srtO l)[j].tags.length (srtO l)[j].tc) (v5 := .int .i64 (srtO l)[j].least) (v6 := .int .i64 (srtO l)[j].most) (v7 := .string (srtO l)[j].group) (v8 := .bool (srtO l)[j].alone) (v9 := .int .i64 (srtO l)[j].order) (v10 := .int .i64 (srtO l)[j].from_) (v11 := .int .i64 (srtO l)[j].to_) rfl
                  clear hR hA
                  generalize hx : (srtO l)[j] = x at *
                  clear hx
                  obtain ⟨s1, hs1⟩ : ∃ s, goP li s0 (srtO l) j = s := ⟨_, rfl⟩
                  rw [hs1] at HP HO HC HLC HINJ HST
                  obtain ⟨lf, shp, cts⟩ := s1
                  have HI1 : Hid (lf.length = k ∧ (∀ z ∈ lf, z ≤ 1000000000) ∧ shp ≤ 1000000000000) := Lib.hid ⟨HINJ.out.len.trans HLI.out.1, HINJ.out.le, Nat.le_trans HINJ.out.sh (by simpa using hs)⟩
                  simp only at HP HO HC HLC
                  have HCF := Lib.hid (fun w' (hb : Below w.heap.size w w') => fitsR_any x ai li k ci sp t w' HLI.out.1 (by omega) hci hci' (HLI.out.2.1.below hb) (HLI.out.2.2.1.below hb) HLI.out.2.2.2 HIT.out HXM.out.1 (HXM.out.2.2.below hb) HXF.out.2)
                  have HCA := Lib.hid (fun w' (hb : Below w.heap.size w w') (hL : natsAt w' la lf) => applied_any x ai li k ci sp la lf cl shp w' HXM.out.1 HXF.out.1 (HXM.out.2.2.below hb) HLI.out.1 HI1.out.1 hni1 (HLI.out.2.1.below hb) (HLI.out.2.2.1.below hb) HLI.out.2.2.2 HIT.out hL HI1.out.2.1 HI1.out.2.2)
                  rw [show x.cells.toArray = #[.string x.key, .int .i64 x.kind, .int .i64 x.a, .int .i64 x.b, .slice x.tv x.tags.length x.tc, .int .i64 x.least, .int .i64 x.most, .string x.group, .bool x.alone, .int .i64 x.order, .int .i64 x.from_, .int .i64 x.to_] from rfl] at HCF HCA
                  have HCLE := Lib.hid (cutN_le x li lf HXF.out.1)
                  have HSHL := Lib.hid (shN_le x shp)
                  have HNFV : Hid (nfB li sp t x = (fitV x li sp t != 0)) := Lib.hid (by unfold nfB; simp [bne, Bool.beq_eq_decide_eq])
                  obtain ⟨cut, hcut⟩ : ∃ z, cutN x li lf = z := ⟨_, rfl⟩
                  obtain ⟨S9, hS9⟩ : ∃ z, shN x shp = z := ⟨_, rfl⟩
                  have HSN : Hid (goP li s0 (srtO l) (j + 1) = ⟨subL lf cut, shp - S9, cts ++ [(x.key, ((cut.sum + S9 : Nat) : Int))]⟩) := Lib.hid (by rw [HST.out]; unfold stepP; simp only [hcut, hS9])
                  rw [hcut] at HCA HCLE
                  rw [hS9] at HCA HSHL
                  obtain ⟨F, hF⟩ : ∃ z, fitV x li sp t = z := ⟨_, rfl⟩
                  rw [hF] at HCF HNFV
                  clear hcut hS9 hF HST HINJ HX HXF hs1 HXM
                  have HBB := (Below.refl wr.heap.size wr).alloc (Nat.le_refl _) (.cells #[.string x.key, .int .i64 x.kind, .int .i64 x.a, .int .i64 x.b, .slice x.tv x.tags.length x.tc, .int .i64 x.least, .int .i64 x.most, .string x.group, .bool x.alone, .int .i64 x.order, .int .i64 x.from_, .int .i64 x.to_] 37)
                  have HBa := Lib.hid (HB.out.alloc HB.out.size (.cells #[.string x.key, .int .i64 x.kind, .int .i64 x.a, .int .i64 x.b, .slice x.tv x.tags.length x.tc, .int .i64 x.least, .int .i64 x.most, .string x.group, .bool x.alone, .int .i64 x.order, .int .i64 x.from_, .int .i64 x.to_] 37))
                  have X0 := Lib.hid (XB.new wr x.cells 37)
                  have HPa := Lib.hid (HP.out.alloc (.cells #[.string x.key, .int .i64 x.kind, .int .i64 x.a, .int .i64 x.b, .slice x.tv x.tags.length x.tc, .int .i64 x.least, .int .i64 x.most, .string x.group, .bool x.alone, .int .i64 x.order, .int .i64 x.from_, .int .i64 x.to_] 37))
                  have HZa := Lib.hid (HZ.out.alloc (.cells #[.string x.key, .int .i64 x.kind, .int .i64 x.a, .int .i64 x.b, .slice x.tv x.tags.length x.tc, .int .i64 x.least, .int .i64 x.most, .string x.group, .bool x.alone, .int .i64 x.order, .int .i64 x.from_, .int .i64 x.to_] 37))
                  have HYa := Lib.hid (HY.out.alloc (.cells #[.string x.key, .int .i64 x.kind, .int .i64 x.a, .int .i64 x.b, .slice x.tv x.tags.length x.tc, .int .i64 x.least, .int .i64 x.most, .string x.group, .bool x.alone, .int .i64 x.order, .int .i64 x.from_, .int .i64 x.to_] 37))
                  have HOa := Lib.hid (own_below HO.out HBB)
                  have HCa := Lib.hid (own_below HC.out HBB)
                  have HAa := Lib.hid (own_below HA.out HBB)
                  rw [show x.cells = (#[.string x.key, .int .i64 x.kind, .int .i64 x.a, .int .i64 x.b, .slice x.tv x.tags.length x.tc, .int .i64 x.least, .int .i64 x.most, .string x.group, .bool x.alone, .int .i64 x.order, .int .i64 x.from_, .int .i64 x.to_] : Array Value).toList from rfl] at X0
                  simp only at X0
                  have HOB : Hid (∀ g, cv.ownBlock = some g → b4 ≤ g ∧ g < wr.heap.size) := Lib.hid (fun g hg => HC.out.lt g hg)
                  have hsa : (wr.alloc (.cells #[.string x.key, .int .i64 x.kind, .int .i64 x.a, .int .i64 x.b, .slice x.tv x.tags.length x.tc, .int .i64 x.least, .int .i64 x.most, .string x.group, .bool x.alone, .int .i64 x.order, .int .i64 x.from_, .int .i64 x.to_] 37)).heap.size = wr.heap.size + 1 := by simp
                  have hsz2 : b4 ≤ wr.heap.size := hsz
                  clear HP HO HC HA HY HZ HB HBB hsz
                  go_upto_region 19 with (fail)
                  generalize wr.alloc (.cells #[.string x.key, .int .i64 x.kind, .int .i64 x.a, .int .i64 x.b, .slice x.tv x.tags.length x.tc, .int .i64 x.least, .int .i64 x.most, .string x.group, .bool x.alone, .int .i64 x.order, .int .i64 x.from_, .int .i64 x.to_] 37) = w7 at *
                  obtain ⟨qb, hqb⟩ : ∃ qb, wr.heap.size = qb := ⟨_, rfl⟩
                  rw [hqb] at X0 HOB hsa hsz2
                  try rw [hqb]
                  clear c0 c1 c2' c3' c4 c5 c6 c7 c8 c9 c10 c11 hp3 hqb
                  obtain ⟨x0, x1, x2, x3, x4, x5, x6, x7, x8, x9, x10, x11⟩ := X0.out.at12
                  have hxl := X0.out.1
                  obtain ⟨y0, y1⟩ := HYa.out.at2'
                  have hyl := HYa.out.1
                  have CF := Lib.hid (HCF.out w7 HBa.out)
                  clear HCF
                  go_wp2_with fail
                  with_reducible refine CF.out.mono ?_
                  rintro e w8 ⟨rfl, b8⟩
                  have HB8 := Lib.hid (HBa.out.trans (b8.mono HBa.out.size))
                  have X8 := Lib.hid (X0.out.below b8)
                  have HP8 := Lib.hid (HPa.out.below b8)
                  have HZ8 := Lib.hid (HZa.out.below b8)
                  have HY8 := Lib.hid (HYa.out.below b8)
                  have HO8 := Lib.hid (own_below HOa.out b8)
                  have HC8 := Lib.hid (own_below HCa.out b8)
                  have HA8 := Lib.hid (own_below HAa.out b8)
                  have hs8 : qb + 1 ≤ w8.heap.size := by have := b8.size; omega
                  clear b8 CF HBa X0 HPa HZa HYa HOa HCa HAa x0 x1 x2 x3 x4 x5 x6 x7 x8 x9 x10 x11 hxl y0 y1 hyl hsa
                  by_cases hF0 : F = 0
                  · subst hF0
                    obtain ⟨x0, x1, x2, x3, x4, x5, x6, x7, x8, x9, x10, x11⟩ := X8.out.at12
                    have hxl := X8.out.1
                    obtain ⟨y0, y1⟩ := HY8.out.at2'
                    have hyl := HY8.out.1
                    have p0 := HP8.out.cell 0 _ rfl
                    have p1 := HP8.out.cell 1 _ rfl
                    have pl := HP8.out.lt
                    have CA := Lib.hid (HCA.out w8 HB8.out (own_nats HO8.out))
                    clear HCA
                    go_wp2_with fail
                    with_reducible refine CA.out.mono ?_
                    rintro e w9 ⟨a9, c9, rfl, hI9, b9, hfr9⟩
                    have HI9 := Lib.hid hI9
                    have HFR : Hid (∀ p off, a9 = some ⟨p, off, none⟩ → qb + 1 ≤ p) := Lib.hid (fun p off h => Nat.le_trans hs8 (hfr9 p off h))
                    have HB9 := Lib.hid (HB8.out.trans (b9.mono HB8.out.size))
                    have X9 := Lib.hid (X8.out.below b9)
                    have HP9 := Lib.hid (HP8.out.below b9)
                    have HZ9 := Lib.hid (HZ8.out.below b9)
                    have HY9 := Lib.hid (HY8.out.below b9)
                    have HO9 := Lib.hid (own_below HO8.out b9)
                    have HC9 := Lib.hid (own_below HC8.out b9)
                    have HA9 := Lib.hid (own_below HA8.out b9)
                    have HS9 : Hid (qb + 1 ≤ w9.heap.size) := Lib.hid (Nat.le_trans hs8 b9.size)
                    have HCL9 := Lib.hid (HCLE.out.1.trans HI1.out.1)
                    have HCB : Hid (∀ z ∈ cut, z ≤ 1000000000) := Lib.hid (fun z hz => by
                      obtain ⟨i, hi, rfl⟩ := List.mem_iff_getElem.1 hz
                      have hj2 : i < lf.length := by rw [← HCLE.out.1]; exact hi
                      exact Nat.le_trans (cut_dec lf cut HCLE.out i hj2 hi) (HI1.out.2.1 _ (List.getElem_mem hj2)))
                    clear hI9 hfr9 b9 CA HB8 X8 HP8 HZ8 HY8 HO8 HC8 HA8 x0 x1 x2 x3 x4 x5 x6 x7 x8 x9 x10 x11 hxl y0 y1 hyl p0 p1 pl hs8
                    go_wp2_with fail
                    go_loopw [16, 17, 85] (fun _ _ i wx => ∃ e : Nat, e ≤ k ∧ i = .int .i64 e ∧ OB wx qp [.slice la k cl, .int .i64 (shp : Nat), cv, .int .i64 0] 42 ∧ wx.ownsRow (qp + 1) 3 1 (.slice la k cl) k (natV (midL lf cut e)) ∧ natsAt wx a9 cut ∧ XB wx qb (#[.string x.key, .int .i64 x.kind, .int .i64 x.a, .int .i64 x.b, .slice x.tv x.tags.length x.tc, .int .i64 x.least, .int .i64 x.most, .string x.group, .bool x.alone, .int .i64 x.order, .int .i64 x.from_, .int .i64 x.to_] : Array Value).toList ∧ wx.ownsRow b4 79 2 cv j (cts.flatMap TkC) ∧ wx.ownsRow b5 37 12 (.slice (some ⟨p3, off3, none⟩) n c2) n ((srtO l).flatMap Of.cells) ∧ XB wx H [.slice ai k ci, .int .i64 (sp : Int)] ∧ OB wx qz [.slice none 0 0, .int .i64 0, .slice none 0 0, .int .i64 0] 42 ∧ Below w.heap.size w wx ∧ qb + 1 ≤ wx.heap.size) (fun _ _ i _ => k - (intOf i).toNat)
                    case atStart => exact ⟨0, Nat.zero_le _, rfl, HP9.out, by rw [midL_zero]; exact HO9.out, HI9.out, X9.out, HC9.out, HA9.out, HY9.out, HZ9.out, HB9.out, HS9.out⟩
                    case round =>
                      obtain ⟨e, he, rfl, hP, hO, hI, hX, hC, hA, hY, hZ, hB, hsz⟩ := hrel
                      have HP := Lib.hid hP
                      have HO := Lib.hid hO
                      have HI := Lib.hid hI
                      have X := Lib.hid hX
                      have HC := Lib.hid hC
                      have HA := Lib.hid hA
                      have HY := Lib.hid hY
                      have HZ := Lib.hid hZ
                      have HB := Lib.hid hB
                      clear HB9 X9 HP9 HZ9 HY9 HO9 HC9 HA9 HS9 HI9 hP hX hC hA hY hZ hB
                      have p0 := HP.out.cell 0 _ rfl
                      have pl := HP.out.lt
                      by_cases hlt : e < k
                      · as_aux_lemma =>
                          have hec : e < cut.length := by have := HCL9.out; omega
                          have hel : e < lf.length := by have := HI1.out.1; omega
                          obtain ⟨pc, oc, rfl, hpc, hcell⟩ := hI.at_ hec
                          obtain ⟨g, cap, hv, hbg, hgl⟩ := hO.form (by omega)
                          injection hv with hv1 hv2 hv3
                          subst hv1 hv3
                          have c0 := hO.cellAt e (by omega)
                          rw [natV_get _ _ (by rw [midL_len]; exact hel), midL_get lf cut e e hel (Nat.le_refl _)] at c0
                          have f0 := hO.frozenAt e
                          have z1 := HI1.out.2.1 lf[e] (List.getElem_mem hel)
                          have z2 := cut_dec lf cut HCLE.out e hel hec
                          have HMS := Lib.hid (midL_set lf cut e hel hec)
                          have hsub : (lf[e] : Int) - (cut[e] : Int) = ((lf[e] - cut[e] : Nat) : Int) := by omega
                          have hdz : lf[e] - cut[e] ≤ 1000000000 := by omega
                          have HST := Lib.hid (hO.stored e (.int .i64 ((lf[e] - cut[e] : Nat) : Int))).1
                          rw [natV_set, HMS.out] at HST
                          have hgb := HLB.out g (by simp [Value.ownBlock])
                          have HGG : Hid (qp + 1 ≤ g ∧ g < b4) := Lib.hid hgb
                          clear hO hI HMS hgb
                          generalize lf[e] - cut[e] = d at *
                          generalize lf[e] = zl at *
                          generalize cut[e] = zc at *
                          have HGS := Lib.hid (grown_set (grown_same wr (some g)) (p := ⟨g, e, none⟩) (.inl rfl) (.int .i64 (d : Int)))
                          have HPS := Lib.hid (HP.out.grown HGS.out (by have := HGG.out; simp; omega))
                          have XS := Lib.hid (X.out.grown HGS.out (by have := HGG.out; simp; omega))
                          have HZS := Lib.hid (HZ.out.grown HGS.out (by have := HGG.out; have := HQP.out; simp; omega))
                          have HYS := Lib.hid (HY.out.grown HGS.out (by have := HGG.out; have := HQP.out; simp; omega))
                          have HIS := Lib.hid (IntsAt.grown HI.out HGS.out (fun p off h => by have h1 := HFR.out p off h; have := HGG.out; omega))
                          have HCS := Lib.hid (own_grown HC.out HGS.out (fun g' hg e => by injection e with e; have h1 := HOB.out g' hg; have := HGG.out; omega))
                          have HAS := Lib.hid (own_grown HA.out HGS.out (fun g' hg e => by injection e with e; have h1 := HAB.out g' hg; have := HGG.out; omega))
                          have HBS := Lib.hid (HB.out.grown HGS.out HB.out.size (fun g' hg => by injection hg with hg; have := HGG.out; have := HH.out; have := HQP.out; omega))
                          have HSS := Lib.hid hsz
                          clear HP HO HI X HC HA HY HZ HB HGS
                          go_wp2_with fail
                          go_roundw
                          case rel => exact ⟨e + 1, by omega, by go_num, HPS.out, HST.out, HIS.out, XS.out, HCS.out, HAS.out, HYS.out, HZS.out, HBS.out, by simpa [World.setCell] using HSS.out⟩
                          case measure => simp [intOf]; omega
                      · as_aux_lemma =>
                          obtain rfl : e = k := by omega
                          have HOE : Hid (wr.ownsRow (qp + 1) 3 1 (.slice la e cl) e (natV (subL lf cut))) := Lib.hid (by rw [← midL_all lf cut HCLE.out.1, HI1.out.1]; exact HO.out)
                          have hssub : (shp : Int) - (S9 : Int) = ((shp - S9 : Nat) : Int) := by have := HSHL.out; omega
                          have hshp9 := HI1.out.2.2
                          have p1 := HP.out.cell 1 _ rfl
                          have f1 := HP.out.free 1
                          have HGS := Lib.hid (grown_set (grown_same wr (some qp)) (p := ⟨qp, 1, none⟩) (.inl rfl) (.int .i64 ((shp - S9 : Nat) : Int)))
                          have HP10 := Lib.hid (HP.out.put (cs' := [.slice la e cl, .int .i64 ((shp - S9 : Nat) : Int), cv, .int .i64 0]) 1 (.int .i64 ((shp - S9 : Nat) : Int)) rfl)
                          have X10 := Lib.hid (X.out.grown HGS.out (by simp; omega))
                          have HZ10 := Lib.hid (HZ.out.grown HGS.out (by have := HQP.out; simp; omega))
                          have HY10 := Lib.hid (HY.out.grown HGS.out (by have := HQP.out; simp; omega))
                          have HI10 := Lib.hid (IntsAt.grown HI.out HGS.out (fun p off h => by have h1 := HFR.out p off h; omega))
                          have HO10 := Lib.hid (own_grown HOE.out HGS.out (fun g hg e => by injection e with e; have h1 := HLB.out g hg; omega))
                          have HC10 := Lib.hid (own_grown HC.out HGS.out (fun g hg e => by injection e with e; have h1 := HOB.out g hg; omega))
                          have HA10 := Lib.hid (own_grown HA.out HGS.out (fun g hg e => by injection e with e; have h1 := HAB.out g hg; omega))
                          have HB10 := Lib.hid (HB.out.grown HGS.out HB.out.size (fun g hg => by injection hg with hg; have := HH.out; have := HQP.out; omega))
                          have hs10 : qb + 1 ≤ (wr.setCell ⟨qp, 1, none⟩ (.int .i64 ((shp - S9 : Nat) : Int))).heap.size := by simpa [World.setCell] using hsz
                          have hpl10 := HP10.out.lt
                          clear HP HO HOE HI X HC HA HY HZ HB HGS hO hI hsz
                          go_upto_region 28 with (fail)
                          generalize wr.setCell ⟨qp, 1, none⟩ (.int .i64 ((shp - S9 : Nat) : Int)) = w10 at *
                          clear p0 p1 f1 pl
                          obtain ⟨CT, hCT⟩ : ∃ z, cut.sum + S9 = z := ⟨_, rfl⟩
                          have hsum : cut.sum ≤ 20000000000 := by
                            have h := sum_left cut e HCL9.out hni1 HCB.out e
                            rw [List.take_of_length_le (by rw [HCL9.out]; exact Nat.le_refl _)] at h
                            exact h
                          have CTT := Lib.hid (total_nats a9 cut e c9 w10.drew HCL9.out (by omega) (fun j hj => HI10.out j hj) (fun x hx => Nat.le_trans (HCB.out x hx) (by omega)))
                          have hct : ((cut.sum : Nat) : Int) + (S9 : Int) = (CT : Int) := by omega
                          have hS9 : S9 ≤ 1000000000000 := by have := HSHL.out; omega
                          rw [hCT] at HSN
                          obtain ⟨cs, hcs⟩ : ∃ z, cut.sum = z := ⟨_, rfl⟩
                          rw [hcs] at CTT hct hsum
                          clear hCT hcs
                          have hCT9 : CT ≤ 2000000000000 := by omega
                          have HL9 := Lib.hid (show (cts ++ [(x.key, (CT : Int))]).length = j + 1 by rw [List.length_append, HLC.out]; rfl)
                          have hmy : j + 1 ≤ maxLen := by unfold maxLen; omega
                          have hmb : (j + 1) * 24 ≤ 140737488355328 := by omega
                          have HAE : Hid (((srtO l).take (j + 1)).any (nfB li sp t) = false) := Lib.hid (by rw [HTK.out, HAN.out, HNFV.out]; rfl)
                          have hjn : j < n := by assumption
                          have PACK := Lib.hid (And.intro HSN.out (And.intro HL9.out (And.intro HAE.out (And.intro hjn hn1))))
                          clear hn1 hjn hc hci' hi hz0 hz1 hz2 HN HE hb59 HIT HOF2 HANY HSL HSR HINV HS0 HSTEP hs HG0 HAN hjl HTK HMEM HCLE HSHL HNFV HFR HCB hni1 hci hk hl0 HCL HI1 HCL9 he hlt hssub hshp9 HSN HLC HL9 HI10 hS9 hsum HAE hj'
                          have HCd : Hid ((w10.alloc (.cells #[.string x.key, .int .i64 (CT : Int)] 79)).drew.ownsRow b4 79 2 cv j (cts.flatMap TkC)) := Lib.hid (own_below HC10.out ((Below.refl w10.heap.size w10).alloc (Nat.le_refl _) (.cells #[.string x.key, .int .i64 (CT : Int)] 79)).drew)
                          have HNW : Hid (∀ j u, ([.string x.key, .int .i64 (CT : Int)] : List Value)[j]? = some u → (w10.alloc (.cells #[.string x.key, .int .i64 (CT : Int)] 79)).drew.cell? ((⟨w10.heap.size, 0, none⟩ : Addr).add j) = some u) := Lib.hid (fun j u h => World.news_of_block (w := (w10.alloc (.cells #[.string x.key, .int .i64 (CT : Int)] 79)).drew) (heap_alloc_new w10 (.cells #[.string x.key, .int .i64 (CT : Int)] 79)) j u h)
                          have HON : Hid (∀ u ∈ ([.string x.key, .int .i64 (CT : Int)] : List Value), u.oneCell' = true) := Lib.hid (by simp [Value.oneCell'])
                          have HSd : Hid (b4 ≤ (w10.alloc (.cells #[.string x.key, .int .i64 (CT : Int)] 79)).drew.heap.size) := Lib.hid (by
                            have h : (w10.alloc (.cells #[.string x.key, .int .i64 (CT : Int)] 79)).drew.heap.size = w10.heap.size + 1 := World.size_alloc _ _
                            omega)
                          have HQOV : Hid (some qp ≠ cv.ownBlock) := Lib.hid (fun e => by have := HOB.out qp e.symm; omega)
                          have HPd : Hid (OB (w10.alloc (.cells #[.string x.key, .int .i64 (CT : Int)] 79)).drew qp [.slice la e cl, .int .i64 ((shp - S9 : Nat) : Int), cv, .int .i64 0] 42) := Lib.hid (HP10.out.alloc _)
                          have HBA := Lib.hid ((Below.refl w10.heap.size w10).alloc (Nat.le_refl _) (.cells #[.string x.key, .int .i64 (CT : Int)] 79)).drew
                          have HZS0 := Lib.hid (HZ10.out.below HBA.out)
                          have HYS0 := Lib.hid (HY10.out.below HBA.out)
                          have HOS0 := Lib.hid (own_below HO10.out HBA.out)
                          have HAS0 := Lib.hid (own_below HA10.out HBA.out)
                          have HBS0 := Lib.hid (HB10.out.alloc HB10.out.size (.cells #[.string x.key, .int .i64 (CT : Int)] 79)).drew
                          have pd2 : (w10.alloc (.cells #[.string x.key, .int .i64 (CT : Int)] 79)).cell? ⟨qp, 2, none⟩ = some cv := HPd.out.cell 2 _ rfl
                          have p2 := HP10.out.cell 2 _ rfl
                          have x0 := X10.out.2 0 _ rfl
                          have hw9 : IntKind.i64.wrap (CT : Int) = (CT : Int) := by rw [IntKind.wrap_i64]; omega
                          have hxl := X10.out.1
                          have hpl := hpl10
                          clear HP10 HZ10 HY10 HO10 HC10 HA10 HB10 X10 HBA hs10 hCT9
                          go_region_law (first | (refine step_append_lies (o := ⟨some 114, _, _, _, _, _⟩) _ rfl (.tmp 105) (.tmp 113) 40 rfl b4 79 j0 _ 2 24 Tryz.underlying40 hj hy0 hy1 hy2 rfl (by decide) cv j (cts.flatMap TkC) (by kernel_rfl) HCd.out ⟨w10.heap.size, 0, none⟩ 1 1 [.string x.key, .int .i64 (CT : Int)] (by kernel_rfl) rfl HNW.out HON.out Nat.one_pos hmy hmb HSd.out _ rfl ?_; intro gq cq w11 own8 grow8 at8 lt8; have HP8 := Lib.hid (HPd.out.grown grow8 HQOV.out.symm); have q8 := HP8.out.cell 2 _ rfl; have f8 := HP8.out.free 2; have l8 := HP8.out.lt) | (go_simp; go_at_call 44; refine CTT.out.mono ?_; rintro e w' ⟨rfl, rfl⟩))
                          all_goals
                            clear hw9
                            have hg4 : b4 ≤ gq := (own8.lt gq (by simp [Value.ownBlock])).1
                            have HC9 : Hid (w11.ownsRow b4 79 2 (.slice (some ⟨gq, 0, none⟩) (j + 1) cq) (j + 1) ((cts ++ [(x.key, (CT : Int))]).flatMap TkC)) := Lib.hid (by rw [List.flatMap_append]; simpa [TkC] using own8)
                            have HPS := HP8.out.put (cs' := [.slice la e cl, .int .i64 ((shp - S9 : Nat) : Int), .slice (some ⟨gq, 0, none⟩) (j + 1) cq, .int .i64 0]) 2 (.slice (some ⟨gq, 0, none⟩) (j + 1) cq) rfl
                            have HGS := grown_set (grown_same w11 (some qp)) (p := ⟨qp, 2, none⟩) (.inl rfl) (.slice (some ⟨gq, 0, none⟩) (j + 1) cq)
                            have HZS := (HZS0.out.grown grow8 (fun e => by have := HOB.out qz e; have := HQP.out; omega)).grown HGS (by have := HQP.out; simp; omega)
                            have HYS := (HYS0.out.grown grow8 (fun e => by have := HOB.out H e; have := HQP.out; omega)).grown HGS (by have := HQP.out; simp; omega)
                            have HOS := own_grown (own_grown HOS0.out grow8 (fun g hg e => by have h1 := HLB.out g hg; have h2 := HOB.out g e; omega)) HGS (fun g hg e => by injection e with e; have h1 := HLB.out g hg; omega)
                            have HAS := own_grown (own_grown HAS0.out grow8 (fun g hg e => by have h1 := HAB.out g hg; have h2 := HOB.out g e; omega)) HGS (fun g hg e => by injection e with e; have h1 := HAB.out g hg; omega)
                            have HCS := own_grown HC9.out HGS (fun g hg e => by injection e with e; have h1 := (HC9.out.lt g hg).1; omega)
                            have HBS := (HBS0.out.grown grow8 HBS0.out.size (fun g hg => by have h1 := HOB.out g hg; have h2 := HH.out; have h3 := HQP.out; omega)).grown HGS (Nat.le_trans HBS0.out.size grow8.size) (fun g hg => by injection hg with hg; have h2 := HH.out; have h3 := HQP.out; omega)
                            have HSS := Nat.le_trans HSd.out grow8.size
                            have HSS := Lib.hid (show b4 ≤ (w11.setCell ⟨qp, 2, none⟩ (.slice (some ⟨gq, 0, none⟩) (j + 1) cq)).heap.size by simpa [World.setCell] using HSS)
                            have HPS := Lib.hid HPS
                            have HOS := Lib.hid HOS
                            have HCS := Lib.hid HCS
                            have HAS := Lib.hid HAS
                            have HYS := Lib.hid HYS
                            have HZS := Lib.hid HZS
                            have HBS := Lib.hid HBS
                            clear own8 grow8 at8 lt8 HPd HCd HNW HON HSd HP8 HZS0 HYS0 HOS0 HAS0 HBS0 q8 f8 l8 pd2 p2 x0 hxl hpl HGS HC9
                            obtain ⟨HSN, HL9, HAE, hjn, hn1⟩ := PACK.out
                            have HSN := Lib.hid HSN
                            have HL9 := Lib.hid HL9
                            have HAE := Lib.hid HAE
                            go_wp2_with fail
                            go_roundw
                            case rel =>
                              refine ⟨j + 1, .slice (some ⟨gq, 0, none⟩) (j + 1) cq, by omega, by go_num, ?_, ?_, ?_, ?_, HAS.out, HYS.out, HZS.out, HBS.out, HSS.out, HAE.out⟩
                              · rw [HSN.out]; exact HPS.out
                              · rw [HSN.out]; exact HOS.out
                              · rw [HSN.out]; exact HL9.out
                              · rw [HSN.out]; exact HCS.out
                            case measure => simp [intOf]; omega
                  · as_aux_lemma =>
                      have hn2 : nfB li sp t x = true := by rw [HNFV.out]; simpa using hF0
                      have e1 : (F == 0) = false := by simpa using hF0
                      have e2 : (F != 0) = true := by simpa using hF0
                      obtain rfl : NF = true := HMEM.out hn2
                      obtain rfl : E = 11 := HE.out
                      have HS := Lib.hid (show SR = ⟨[], 0, []⟩ from HSR.out)
                      clear hF0 hn2
                      have z0 := HZ8.out.cell 0 _ rfl
                      have z1 := HZ8.out.cell 1 _ rfl
                      have z2 := HZ8.out.cell 2 _ rfl
                      have z3 := HZ8.out.cell 3 _ rfl
                      have f0 := HZ8.out.free 0
                      have f1 := HZ8.out.free 1
                      have f2 := HZ8.out.free 2
                      have f3 := HZ8.out.free 3
                      have hzl := HZ8.out.lt
                      have HBS := Lib.hid (HB8.out.grown (grown_set4 w8 qz (.slice none 0 0) (.int .i64 0) (.slice none 0 0) (.int .i64 0)) HB8.out.size (fun g hg => by injection hg with hg; have h1 := HH.out; have h2 := HQR.out; omega))
                      go_wp2_with fail
                      refine bodyPost_ret (v := .tuple #[.agg #[.slice none 0 0, .int .i64 0, .slice none 0 0, .int .i64 0], .int .i64 11]) (by simp [results, Tryz.results14, go_sem, z0, z1, z2, z3]) rfl ?_
                      exact ⟨_, rfl, by rw [HS.out]; exact prc_zero _ _, HBS.out⟩
                  --@end
              · as_aux_lemma =>
                  obtain rfl : j = n := by omega
                  obtain rfl : NF = false := by
                    have h1 := HANY.out
                    rw [← HAN.out, ← h1, List.take_of_length_le (by rw [HSL.out]; exact Nat.le_refl _)]
                  obtain rfl : E = 0 := HE.out
                  have HS := Lib.hid (show SR = goP li s0 (srtO l) j from HSR.out)
                  obtain ⟨s1, hs1⟩ : ∃ s, goP li s0 (srtO l) j = s := ⟨_, rfl⟩
                  rw [hs1] at HP HO HC HLC HINJ HS
                  obtain ⟨lf, shp, cts⟩ := s1
                  have HI1 : Hid (lf.length = k ∧ (∀ z ∈ lf, z ≤ 1000000000) ∧ shp ≤ 1000000000000) := Lib.hid ⟨HINJ.out.len.trans HLI.out.1, HINJ.out.le, Nat.le_trans HINJ.out.sh (by simpa using hs)⟩
                  simp only at HP HO HC HLC
                  clear hs1 HINJ hA HA
                  have p0 := HP.out.cell 0 _ rfl
                  have p1 := HP.out.cell 1 _ rfl
                  have p2 := HP.out.cell 2 _ rfl
                  have p3 := HP.out.cell 3 _ rfl
                  have f3 := HP.out.free 3
                  have pl := HP.out.lt
                  have hsm := sum_left lf k HI1.out.1 hni1 HI1.out.2.1 k
                  rw [List.take_of_length_le (by rw [HI1.out.1]; exact Nat.le_refl _)] at hsm
                  have hshp9 := HI1.out.2.2
                  have CTT := Lib.hid (total_nats la lf k cl wr.drew HI1.out.1 (by omega) (own_nats HO.out).drew' (fun x hx => Nat.le_trans (HI1.out.2.1 x hx) (by omega)))
                  obtain ⟨tt, htt⟩ : ∃ z, shp + lf.sum = z := ⟨_, rfl⟩
                  have hts : ((lf.sum : Nat) : Int) + (shp : Int) = (tt : Int) := by omega
                  have HTT := Lib.hid htt
                  have htt9 : tt ≤ 2000000000000 := by omega
                  clear htt
                  go_upto_region 30 with (fail)
                  refine wp_region_still_tail 6 (by kernel_rfl) (by kernel_rfl) ?_
                  simp only [List.take_succ_cons, List.take_zero, List.drop_succ_cons, List.drop_zero]
                  iterate 2 still_step
                  still_call (CTT.out.mono fun e w' h => ⟨h.1, h.2.symm⟩)
                  iterate 3 still_step
                  refine wpStill_nil ?_
                  change wpList _ _ _ _ _ wr.drew
                  have HP6 := Lib.hid (show OB wr.drew qp _ _ from HP.out)
                  have HO6 := Lib.hid (show wr.drew.ownsRow _ _ _ _ _ _ from HO.out)
                  have HC6 := Lib.hid (show wr.drew.ownsRow _ _ _ _ _ _ from HC.out)
                  have HZ6 := Lib.hid (show OB wr.drew qz _ _ from HZ.out)
                  have HB6 := Lib.hid HB.out.drew
                  clear HP HO HC HZ HY HB p0 p1 p2 p3 f3 pl CTT
                  generalize wr.drew = w6 at *
                  obtain ⟨lc, cc, hcv, hcc, -⟩ := own_form HC6.out
                  subst hcv
                  have HPp := Lib.hid (HP6.out.put (cs' := [.slice la k cl, .int .i64 (shp : Nat), .slice lc j cc, .int .i64 (tt : Int)]) 3 (.int .i64 (tt : Int)) rfl)
                  have HG1 := grown_set (grown_same w6 (some qp)) (p := ⟨qp, 3, none⟩) (.inl rfl) (.int .i64 (tt : Int))
                  have HZp := Lib.hid (HZ6.out.grown HG1 (by have := HQP.out; simp; omega))
                  have HOp := Lib.hid (own_grown HO6.out HG1 (fun g hg e => by injection e with e; have h1 := HLB.out g hg; omega))
                  have HCp := Lib.hid (own_grown HC6.out HG1 (fun g hg e => by injection e with e; have h1 := (HC6.out.lt g hg).1; omega))
                  have HBp := Lib.hid (HB6.out.grown HG1 HB6.out.size (fun g hg => by injection hg with hg; have h2 := HH.out; have h3 := HQP.out; omega))
                  have q3 := HP6.out.cell 3 _ rfl
                  have r3 := HP6.out.free 3
                  have rl := HP6.out.lt
                  clear HG1
                  go_upto_region 31 with (fail)
                  generalize w6.setCell ⟨qp, 3, none⟩ (.int .i64 (tt : Int)) = w7 at *
                  clear q3 r3 rl HP6 HO6 HC6 HZ6 HB6
                  have p0 := HPp.out.cell 0 _ rfl
                  have p1 := HPp.out.cell 1 _ rfl
                  have p2 := HPp.out.cell 2 _ rfl
                  have p3 := HPp.out.cell 3 _ rfl
                  have pl := HPp.out.lt
                  have z0 := HZp.out.cell 0 _ rfl
                  have z1 := HZp.out.cell 1 _ rfl
                  have z2 := HZp.out.cell 2 _ rfl
                  have z3 := HZp.out.cell 3 _ rfl
                  have f0 := HZp.out.free 0
                  have f1 := HZp.out.free 1
                  have f2 := HZp.out.free 2
                  have f3 := HZp.out.free 3
                  have hzl := HZp.out.lt
                  have HGS := Lib.hid (grown_set4 w7 qz (.slice la k cl) (.int .i64 (shp : Nat)) (.slice lc j cc) (.int .i64 (tt : Int)))
                  have HOS := Lib.hid (own_grown HOp.out HGS.out (fun g hg e => by injection e with e; have h1 := HLB.out g hg; have := HQP.out; omega))
                  have HCS := Lib.hid (own_grown HCp.out HGS.out (fun g hg e => by injection e with e; have h1 := (HCp.out.lt g hg).1; have := HQP.out; omega))
                  have HBS := Lib.hid (HBp.out.grown HGS.out HBp.out.size (fun g hg => by injection hg with hg; have h2 := HH.out; have := HQR.out; omega))
                  have HPR : Hid (PrcAt ((((w7.setCell ⟨qz, 0, none⟩ (.slice la k cl)).setCell ⟨qz, 1, none⟩ (.int .i64 (shp : Nat))).setCell ⟨qz, 2, none⟩ (.slice lc j cc)).setCell ⟨qz, 3, none⟩ (.int .i64 (tt : Int))) w.heap.size (.agg #[.slice la k cl, .int .i64 (shp : Nat), .slice lc j cc, .int .i64 (tt : Int)]) ⟨lf, shp, cts⟩) := Lib.hid (by
                    refine ⟨la, cl, lc, cc, ?_, own_nats HOS.out, own_rat HCS.out HLC.out (fun x _ => TkC_len x), ?_, ?_, (fun p off hp => by subst hp; have := HLB.out p (by simp [Value.ownBlock]); have := HH.out; have := HQP.out; omega), (fun p off hp => by subst hp; have := (HCS.out.lt p (by simp [Value.ownBlock])).1; have := HH.out; have := HQP.out; omega)⟩
                    · simp only [HI1.out.1, HLC.out, HTT.out]
                    · simp only [HI1.out.1]; exact HCL.out
                    · simp only [HLC.out]; exact hcc)
                  clear HGS HOS HCS HPp HZp HOp HCp HBp
                  go_wp2_with fail
                  refine bodyPost_ret (v := .tuple #[.agg #[.slice la k cl, .int .i64 (shp : Nat), .slice lc j cc, .int .i64 (tt : Int)], .int .i64 0]) (by simp [results, Tryz.results14, go_sem, z0, z1, z2, z3]) rfl ?_
                  exact ⟨_, rfl, by rw [HS.out]; exact HPR.out, HBS.out⟩
  · as_aux_lemma =>
      have e1 : (W == 0) = false := by simpa using hW0
      have e2 : (W != 0) = true := by simpa using hW0
      obtain rfl : V = W := HOC.out.1 hW0
      obtain rfl : E = V := HE.out.trans (if_neg hW0)
      have HS := Lib.hid (show SR = ⟨[], 0, []⟩ from HSR.out.trans (if_neg hW0))
      clear hW0
      have z0 := HZ2.out.cell 0 _ rfl
      have z1 := HZ2.out.cell 1 _ rfl
      have z2 := HZ2.out.cell 2 _ rfl
      have z3 := HZ2.out.cell 3 _ rfl
      have f0 := HZ2.out.free 0
      have f1 := HZ2.out.free 1
      have f2 := HZ2.out.free 2
      have f3 := HZ2.out.free 3
      have hzl := HZ2.out.lt
      have HBS := Lib.hid (HB2.out.grown (grown_set4 wc qz (.slice none 0 0) (.int .i64 0) (.slice none 0 0) (.int .i64 0)) HB2.out.size (fun g hg => by injection hg with hg; have h1 := HH.out; have h2 := HQR.out; omega))
      go_wp2_with fail
      refine bodyPost_ret (v := .tuple #[.agg #[.slice none 0 0, .int .i64 0, .slice none 0 0, .int .i64 0], .int .i64 E]) (by simp [results, Tryz.results14, go_sem, z0, z1, z2, z3]) rfl ?_
      exact ⟨_, rfl, by rw [HS.out]; exact prc_zero _ _, HBS.out⟩
end Go.Proofs.YtdefjnefkdemiaaGreatDoor
