/- measure.Arms. -/
import Derived.Test.YtdnikegakcdcnaaDoorArmsSpec
import Derived.Test.YtdnikegakcdcnaaDoorSeen
import Derived.Deep.DeepCutAuto
set_option linter.unusedVariables false
namespace Go.Proofs.YtdnikegakcdcnaaDoor
open Go.RowKit

theorem infoStrs : (Tryd.prog.info? 47).map (fun i => (i.zero, i.size, i.bytes)) = some (some (.slice none 0 0), 1, 24) := by kernel_rfl

set_option maxRecDepth 100000 in
set_option maxHeartbeats 4000000 in
theorem Arms_any (name : ByteArray) (a ka : Option Addr) (ws : List Int) (n c kn kc : Nat) (hold : Int) (ks : List ByteArray) (w : World) (hn : ws.length = n) (hn1 : n ≤ 1000) (hI : IntsAt w a ws) (hn2 : name.size ≤ 100)
    (hkn : ks.length = kn) (hkn1 : kn ≤ 100) (hK : StrsAt w ka ks) (hks : ∀ k ∈ ks, k.size ≤ 100) :
    Calls Tryd.prog 30 #[.agg #[.string name, .slice a n c, .int .i64 hold], .slice ka kn kc] w (ArmsOut w (armsE name ws hold ks) (armsL name ws hold ks)) := by
  obtain ⟨i0, hi, hz0, hz1, hz2⟩ := info_parts infoStr
  obtain ⟨i1, hi1, hy0, hy1, hy2⟩ := info_parts infoStrs
  have hmm := @run_makeMap Tryd.prog
  have C1 := Lib.hid (fun w' (h : IntsAt w' a ws) => CheckSplit_any name a ws n c hold w' hn hn1 h hn2)
  obtain ⟨E, hE⟩ : ∃ E, armsE name ws hold ks = E := ⟨_, rfl⟩
  obtain ⟨L, hL⟩ : ∃ L, armsL name ws hold ks = L := ⟨_, rfl⟩
  rw [hE, hL]
  have HE := Lib.hid hE.symm
  have HL := Lib.hid hL.symm
  unfold armsE at HE
  unfold armsL at HL
  rw [hE, hn] at HL
  clear hE hL
  obtain ⟨se, hse⟩ : ∃ se, splitE (keyB name) ws hold = se := ⟨_, rfl⟩
  have HOKS := Lib.hid (fun h : se = 0 => splitE_ok (hse.trans h))
  rw [hse] at HE C1
  clear hse
  have HN := Lib.hid hn
  have HKN := Lib.hid hkn
  have HKS := Lib.hid hks
  have HI1 := Lib.hid (hI.alloc (.cells #[.string name, .slice a n c, .int .i64 hold] 45))
  have HB1 := Lib.hid ((Below.refl w.heap.size w).alloc (Nat.le_refl _) (.cells #[.string name, .slice a n c, .int .i64 hold] 45))
  have HK1 := Lib.hid (hK.below HB1.out)
  have HX1 := Lib.hid (XB.new w [.string name, .slice a n c, .int .i64 hold] 45)
  simp only [List.toArray] at HX1
  clear hn hkn hks hI hK
  go_enter Tryd.func30, Tryd.ntmps30
  go_wp2_with fail
  with_reducible refine (C1.out _ HI1.out).mono ?_
  rintro e w1 ⟨rfl, b1⟩
  have HB2 := Lib.hid (HB1.out.trans (b1.mono HB1.out.size))
  have HI2 := Lib.hid (HI1.out.below b1)
  have HK2 := Lib.hid (HK1.out.below b1)
  have HX2 := Lib.hid (HX1.out.below b1)
  clear HI1 HB1 HK1 HX1 C1 b1
  generalize hq : w.heap.size = q at *
  have HQ := Lib.hid hq
  clear hq
  have hqw := HX2.out.1
  by_cases hs0 : se = 0
  · subst hs0
    have HOK := Lib.hid (HOKS.out rfl)
    have HE2 := Lib.hid (HE.out.trans (if_pos rfl))
    clear HOKS HE
    go_wp2_with fail
    go_loopw [9, 25] (fun _ i wr => ∃ k : Nat, k ≤ kn ∧ i = .int .i64 k ∧ Seen wr w1.heap.size k (ks.take k) ∧ Below w1.heap.size w1 wr ∧ Hid (keysE ks = keysGo (ks.take k) (ks.drop k))) (fun _ i _ => kn - (intOf i).toNat)
    case atStart => exact ⟨0, Nat.zero_le _, rfl, Seen.made w1, (Below.refl _ _).alloc (Nat.le_refl _) _, Lib.hid rfl⟩
    case round =>
      obtain ⟨k, hk, rfl, hS, hB, hV⟩ := hrel
      by_cases hlt : k < kn
      · have hkl : k < ks.length := by have := HKN.out; omega
        obtain ⟨p, off, rfl, hp, c0⟩ := (HK2.out.below hB) k hkl
        have hks1 := HKS.out ks[k] (List.getElem_mem hkl)
        have HD := Lib.hid (hV.out.trans (keysGo_drop ks k hkl))
        have HT := Lib.hid (List.take_succ_eq_append_getElem hkl)
        generalize ks[k] = key at *
        have CK := Lib.hid (fun w => isKey_any key w (by unfold maxLen; omega))
        obtain ⟨b2, hb2⟩ : ∃ b, hasS (ks.take k) key = b := ⟨_, rfl⟩
        have HB2' := Lib.hid hb2
        rw [hb2] at HD
        generalize keyB key = b1 at *
        have HS := Lib.hid hS
        have HBr := Lib.hid hB
        have hBz := hB.size
        clear hb2 hS hB hV
        go_wp2_with fail
        with_reducible refine (CK.out _).mono ?_
        rintro e w2 ⟨rfl, rfl⟩
        cases b1 with
        | false =>
          have e5 : E = 5 := by rw [HE2.out, HD.out]; simp
          have HLx := Lib.hid (HL.out.trans (if_neg (by rw [e5]; decide)))
          subst e5
          go_wp2_with fail
          go_ret2
          exact ⟨.slice none 0 0, rfl, by rw [HLx.out]; exact SSAt.nil _, by rw [HQ.out]; exact HB2.out.trans (HBr.out.mono (by omega))⟩
        | true =>
          cases b2 with
          | true =>
            have e6 : E = 6 := by rw [HE2.out, HD.out]; simp
            have HLx := Lib.hid (HL.out.trans (if_neg (by rw [e6]; decide)))
            subst e6
            go_wp2_with (at_lookup; refine wpList_lookup_seen _ rfl _ _ rfl _ _ _ rfl HS.out _ rfl (by unfold maxLen; omega) true HB2'.out ?_)
            go_ret2
            exact ⟨.slice none 0 0, rfl, by rw [HLx.out]; exact SSAt.nil _, by rw [HQ.out]; exact HB2.out.trans (HBr.out.mono (by omega))⟩
          | false =>
            have HD2 := Lib.hid (HD.out.trans (show _ = keysGo (ks.take (k + 1)) (ks.drop (k + 1)) by simp))
            go_wp2_with (first | (at_lookup; refine wpList_lookup_seen _ rfl _ _ rfl _ _ _ rfl HS.out _ rfl (by unfold maxLen; omega) false HB2'.out ?_) | (at_mapUpdate; refine wpList_update_seen _ rfl _ _ _ rfl _ _ _ rfl HS.out (by unfold maxLen; omega) _ rfl rfl (by unfold maxLen; omega) ?_))
            intro w3 hS3 hg3
            have HS3 := Lib.hid hS3
            have HB3 := Lib.hid (HBr.out.grown hg3 (by omega) (fun k hk => by simp at hk; omega))
            clear hS3 hg3
            go_wp2_with fail
            go_roundw
            case rel => exact ⟨k + 1, by omega, by go_num, by rw [HT.out]; exact HS3.out, HB3.out, HD2⟩
            case measure => simp [intOf]; omega
      · obtain rfl : kn = k := by omega
        have e0 : E = 0 := by
          rw [HE2.out, hV.out, List.drop_eq_nil_of_le (by have := HKN.out; omega)]
          rfl
        have HL2 := Lib.hid (HL.out.trans (if_pos e0))
        subst e0
        have HI3 := Lib.hid (HI2.out.below hB)
        have HK3 := Lib.hid (HK2.out.below hB)
        have HX3 := Lib.hid (HX2.out.below hB)
        have HB3 := Lib.hid (HB2.out.trans (hB.mono (by omega)))
        have hBz := hB.size
        clear HI2 HK2 HX2 HB2 HE2 HL hS hB hV
        have x0 := HX3.out.2 0 _ rfl
        have x1 := HX3.out.2 1 _ rfl
        have x2 := HX3.out.2 2 _ rfl
        go_wp2_with (first | (refine wpList_make_row _ rfl _ _ 54 rfl 47 i1 (.slice none 0 0) Tryd.underlying54 hi1 hy0 hy1 rfl (n + 1) (by go_simp) (by go_simp) (by rw [hy2]; omega) (by unfold maxLen; omega) ?_) | fail)
        intro wm hR hgm hzm
        obtain ⟨w3, hw3⟩ : ∃ w3 : World, w3 = wr := ⟨wr, rfl⟩
        subst hw3
        have hBm : Below w3.heap.size w3 wm := (Below.refl _ _).grown hgm (Nat.le_refl _) (by simp)
        have LL0 : LL (w3.heap.size + 1) wm w3.heap.size (n + 1) (fun _ => .slice none 0 0) (dist (armI name ws hold) (n + 1) (ks.take 0)) := by
          rw [List.take_zero, dist_nil]
          exact LL.new rfl hR (by omega)
        obtain ⟨hok0, hok1, hok2, hok3, hok4, hok5, hok6⟩ := HOK.out
        rw [HN.out] at hok1 hok2
        have HOK3 := Lib.hid hok3
        clear hR hgm HOK hok3 hok0
        go_wp2_with fail
        go_loopw [12, 13, 47] (fun _ _ i w' => ∃ (k : Nat) (f : Nat → Value), k ≤ kn ∧ i = .int .i64 k ∧ LL (w3.heap.size + 1) w' w3.heap.size (n + 1) f (dist (armI name ws hold) (n + 1) (ks.take k)) ∧ Below w3.heap.size w3 w' ∧ w3.heap.size + 1 ≤ w'.heap.size) (fun _ _ i _ => kn - (intOf i).toNat)
        case atStart => exact ⟨0, _, Nat.zero_le _, rfl, LL0, hBm, by omega⟩
        case round =>
          obtain ⟨k, f, hk, rfl, hLL, hB, hbz⟩ := hrel
          by_cases hlt : k < kn
          · have hkl : k < ks.length := by have := HKN.out; omega
            obtain ⟨p, off, rfl, hp, c0⟩ := (HK3.out.below hB) k hkl
            have hks1 := HKS.out ks[k] (List.getElem_mem hkl)
            have HT := Lib.hid (List.take_succ_eq_append_getElem hkl)
            generalize ks[k] = key at *
            have hX := HX3.out.below hB
            have x0 := hX.2 0 _ rfl
            have x1 := hX.2 1 _ rfl
            have x2 := hX.2 2 _ rfl
            have HIk := Lib.hid (HI3.out.below hB)
            have HLk := Lib.hid hLL
            have HBk := Lib.hid hB
            clear hLL hB hX LL0 hBm
            go_wp2_with fail
            with_reducible refine (arm_any name key _ ws _ _ hold _ HN.out (by omega) HIk.out HOK3.out hok4 hok5 hok6 hn2 hks1).mono ?_
            rintro e w5 ⟨rfl, b5⟩
            have HI5 := Lib.hid (HIk.out.below b5)
            have HL5 := Lib.hid (HLk.out.below b5)
            have HB5 := Lib.hid (HBk.out.trans (b5.mono (by omega)))
            have hX5 := HX3.out.below HB5.out
            have hsz5 : w3.heap.size + 1 ≤ w5.heap.size := by have := b5.size; omega
            have HIL := Lib.hid (armI_lt name ws hold key)
            have HII := Lib.hid (show armI name ws hold key = if armV name ws hold key < 0 then ws.length else (armV name ws hold key).toNat from rfl)
            have hvb := armV_bd name ws hold key
            rw [HN.out] at HII HIL hvb
            have HSN := Lib.hid (fun h => dist_snoc (armI name ws hold) (n + 1) (ks.take k) key h)
            have y1 := hX5.2 1 _ rfl
            clear x0 x1 x2 HIk HLk HBk b5 hX5 hbz c0
            obtain ⟨I, hI⟩ : ∃ I, armI name ws hold key = I := ⟨_, rfl⟩
            obtain ⟨D, hD⟩ : ∃ D, dist (armI name ws hold) (n + 1) (ks.take k) = D := ⟨_, rfl⟩
            rw [hI] at HII HIL
            rw [hD] at HL5
            have HDE : Hid (∀ h : I < D.length, D[I].length ≤ 1000) := Lib.hid (by
              intro h
              subst hD
              have := dist_el (armI name ws hold) (n + 1) (ks.take k) I h
              have h2 : (ks.take k).length ≤ k := by simp; omega
              omega)
            have HSN' : Hid (∀ h : I < D.length, D.set I (D[I] ++ [key]) = dist (armI name ws hold) (n + 1) (ks.take (k + 1))) := Lib.hid (by
              intro h
              have := HSN.out
              rw [HT.out, ← this (by rw [hD, hI]; exact h)]
              subst hD hI
              rfl)
            clear HSN hI hD HT
            generalize armV name ws hold key = av at *
            have hIl := HIL.out
            have hDl : I < D.length := by have := HL5.out.len; omega
            go_upto_if 55 with (fail)
            go_cut [13] (fun x wx => x = .int .i64 (I : Int) ∧ w5 = wx)
            case first =>
              by_cases hav : av < 0
              · have e : I = n := by rw [HII.out, if_pos hav]
                subst e
                go_wp2_with fail
                go_meet
                exact ⟨rfl, rfl⟩
              · have e : (I : Int) = av := by rw [HII.out, if_neg hav]; omega
                go_wp2_with fail
                go_meet
                exact ⟨by rw [e], rfl⟩
            case rest =>
              obtain ⟨rfl, rfl⟩ := hcut
              have hcB := HL5.out.row.cell I (by omega)
              have hown := HL5.out.own I hDl
              have hDll := HDE.out hDl
              have hw5 := HB5.out.size
              clear y1 HII hvb
              go_wp2_with (at_builtin; refine wpList_append_lies _ rfl _ _ 47 rfl (w3.heap.size + 1) 9 i0 _ 1 16 Tryd.underlying47 hi hz0 hz1 hz2 rfl (by decide) _ _ _ rfl (hown.alloc _) ⟨w5.heap.size, 0, none⟩ 1 1 [.string key] rfl rfl ?c1 ?c2 (by omega) ?c3 ?c4 ?c5 _ rfl ?_)
              case c1 => exact cells_new w5 #[.string key] 9
              case c2 => simp [Value.oneCell']
              case c3 => unfold maxLen; omega
              case c4 => omega
              case c5 => simp; omega
              intro g cap w6 own6 hgrow6 hat6 hlt6
              have HA := Lib.hid (HL5.out.app hDl (World.grownBy_alloc w5 (.cells #[.string key] 9) none) hsz5 own6 hgrow6 (by rw [World.size_alloc]; exact hat6))
              have cA := HA.out.1
              have fA := HA.out.2.1
              have HB6 := Lib.hid ((HB5.out.alloc (by omega) (.cells #[.string key] 9)).grown hgrow6 (by simp; omega) (fun j hj => by have := (hown.lt j hj).1; omega))
              have hsz6 := hgrow6.size
              simp only [World.size_alloc] at hsz6
              clear own6 hgrow6 hat6 hown hcB HL5 HB5
              go_wp2_with fail
              go_roundw
              case rel => exact ⟨k + 1, _, by omega, by go_num, by rw [← HSN'.out hDl]; exact HA.out.2.2, HB6.out.setCell (by show w3.heap.size ≤ w3.heap.size; omega) _, by simp [World.setCell]; omega⟩
              case measure => simp [intOf]; omega
          · obtain rfl : kn = k := by omega
            have HLL := Lib.hid hLL
            have HBB := Lib.hid (HB3.out.trans (hB.mono (by have := HB3.out.size; have := HQ.out; omega)))
            clear hLL hB LL0 hBm
            go_wp2_with fail
            go_ret2
            refine ⟨_, rfl, ?_, by rw [HQ.out]; exact HBB.out⟩
            rw [HL2.out]
            have h := HLL.out.ss
            rw [List.take_of_length_le (by have := HKN.out; omega)] at h
            exact h
  · have es : E = se := HE.out.trans (if_neg hs0)
    have HL2 := Lib.hid (HL.out.trans (if_neg (by rw [es]; exact hs0)))
    subst es
    go_wp2_with fail
    go_ret2
    exact ⟨.slice none 0 0, rfl, by rw [HL2.out]; exact SSAt.nil _, by rw [HQ.out]; exact HB2.out⟩
end Go.Proofs.YtdnikegakcdcnaaDoor
