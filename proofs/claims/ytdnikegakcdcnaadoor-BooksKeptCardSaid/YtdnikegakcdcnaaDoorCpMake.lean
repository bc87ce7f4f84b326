/- The maker of coupons: Stream.Coupons, CouponCode (printed by gen_cpmake.py). -/
import Derived.Test.YtdnikegakcdcnaaDoorBook
import Derived.Test.YtdnikegakcdcnaaDoorBudMake
import Derived.Test.YtdnikegakcdcnaaDoorCodeMake
set_option linter.unusedVariables false
namespace Go.Proofs.YtdnikegakcdcnaaDoor
open Go.RowKit

def cpBodies : List ByteArray := [⟨#[49, 50, 51]⟩, ⟨#[65, 66, 67]⟩, ⟨#[88, 89, 48, 48]⟩]
theorem cpBodies_size (k : Nat) (h : k < cpBodies.length) : cpBodies[k].size ≤ 4 := by
  have h' : ∀ x ∈ cpBodies, x.size ≤ 4 := by decide
  exact h' _ (List.getElem_mem h)

set_option maxRecDepth 100000 in
set_option maxHeartbeats 4000000 in
theorem couponCode_any (S : SC) (K : Nat) (w : World) (s0 : Strm w S K) (hK : K ≤ 7000) :
    Calls Tryd.prog 39 #[S.p] w (GenS S (K + 70) w fun r => r.size ≤ 500) := by
  go_enter Tryd.func39, Tryd.ntmps39
  go_wp2_with fail
  with_reducible refine (flip_any S _ _ _ s0 (by omega) (by omega)).mono ?_
  rintro e w1 ⟨b, rfl, k1, s1⟩
  have HG1 := Lib.hid k1
  clear k1 s0
  cases b with
  | true =>
    go_wp2_with fail
    with_reducible refine (code_any S _ _ s1 (by omega)).mono ?_
    rintro e w2 ⟨c, hc, rfl, k2, s2⟩
    have HG2 := Lib.hid (grown_trans HG1.out k2)
    have HS2 := Lib.hid (strm_mono s2 (show _ ≤ K + 70 by omega))
    clear k2 s1 s2 HG1
    go_wp2_with fail
    go_ret
    exact ⟨_, hc, rfl, HG2.out, HS2.out⟩
  | false =>
    go_wp2_with fail
    with_reducible refine (one_at S _ [⟨#[49, 50, 51]⟩, ⟨#[65, 66, 67]⟩, ⟨#[88, 89, 48, 48]⟩] 3 _ _ _ _ s1 (by omega) rfl (by omega) (by omega) (by simp) (by simp)).mono ?_
    rintro e w2 ⟨b, hb, rfl, k2, s2⟩
    have hbs : b.size ≤ 4 := by
      have h' : ∀ x ∈ ([⟨#[49, 50, 51]⟩, ⟨#[65, 66, 67]⟩, ⟨#[88, 89, 48, 48]⟩] : List ByteArray), x.size ≤ 4 := by decide
      exact h' _ hb
    have HG2 := Lib.hid (grown_trans HG1.out k2)
    clear k2 s1 hb HG1
    have hsz := sealO_size b
    have C := Lib.hid (fun w => SealOf_any b w (by omega))
    generalize sealO b = O at *
    obtain ⟨c, f⟩ := O
    simp only at hsz C
    go_wp2_with fail
    with_reducible refine (C.out _).mono ?_
    rintro e w3 ⟨rfl, b3⟩
    have HG3 := Lib.hid (grown_trans HG2.out (grown_of_below b3 _))
    have HS3 := Lib.hid (strm_mono (strm_below s2 b3) (show _ ≤ K + 70 by omega))
    clear b3 s2 HG2
    go_wp2_with fail
    go_ret
    exact ⟨_, by omega, rfl, HG3.out, HS3.out⟩

set_option maxRecDepth 100000 in
set_option maxHeartbeats 16000000 in
theorem coupons_any (S : SC) (K : Nat) (w : World) (s0 : Strm w S K) (hK : K ≤ 5000) :
    Calls Tryd.prog 34 #[S.p] w (GenR S (K + 100) w 6 Cp.cells fun l => l.length ≤ 3 ∧ ∀ x ∈ l, x.ok) := by
  obtain ⟨i0, hi, hz0, hz1, hz2⟩ := info_parts infoCp
  have hS0 := strm_lt s0
  have L1 : LstR w (w.heap.size + 1) (w.alloc (.cells (cpBodies.map Value.string).toArray 9)) S K 144 6 Cp.cells (.slice none 0 0) [] := ⟨World.ownsRow_nil _ _ _ _, strm_alloc s0 _, World.grownBy_alloc w _ _, by simp⟩
  have T1 := StrsAt.new w cpBodies 9
  have HL1 := Lib.hid L1
  have HT1 := Lib.hid T1
  clear L1 T1 s0
  go_enter Tryd.func34, Tryd.ntmps34
  go_wp2_with fail
  go_loopw [3, 5, 6, 7, 11] (fun v _ _ _ i wr => ∃ (k : Nat) (l : List Cp), k ≤ 3 ∧ i = .int .i64 k ∧ l.length ≤ k ∧ (∀ x ∈ l, x.ok) ∧ LstR w (w.heap.size + 1) wr S (K + 6 * k) 144 6 Cp.cells v l ∧ StrsAt wr (some ⟨w.heap.size, 0, none⟩) cpBodies) (fun _ _ _ _ i _ => 3 - (intOf i).toNat)
  case atStart => exact ⟨0, [], Nat.zero_le _, rfl, Nat.le_refl _, by simp, HL1.out, HT1.out⟩
  case round =>
    obtain ⟨k, l, hk, rfl, hl, hok, hL, hT⟩ := hrel
    have HL := Lib.hid hL
    have HT := Lib.hid hT
    have HOK := Lib.hid hok
    have s2 := hL.2.1
    have hS1 : S.g < w.heap.size + 1 := by omega
    have hne : w.heap.size ≠ S.g := by omega
    have hw1 : w.heap.size ≤ w.heap.size + 1 := by omega
    clear hL HL1 HT1 hok
    by_cases hlt : k < 3
    · have hkl : k < cpBodies.length := hlt
      obtain ⟨p, off, hp, hpl, c0⟩ := hT k hkl
      injection hp with hp
      injection hp with hp1 hp2
      subst hp1 hp2
      have hks := cpBodies_size k hkl
      obtain ⟨body, hkey⟩ : ∃ body, cpBodies[k] = body := ⟨_, rfl⟩
      rw [hkey] at c0 hks
      rw [Nat.zero_add] at c0
      clear hkey hT
      go_wp2_with fail
      with_reducible refine (flip_any S _ _ _ s2 (by omega) (by omega)).mono ?_
      rintro e w3 ⟨b, rfl, k3, s3⟩
      have HL3 := Lib.hid (HL.out.draw k3 s3 hS1)
      have HT3 := Lib.hid (HT.out.grown k3 (fun p off e => by injection e with e; injection e with e1; omega))
      clear HL HT k3 s2 c0 hpl
      cases b with
      | true =>
        go_wp2_with fail
        go_roundw
        case rel => exact ⟨k + 1, l, by omega, by go_num, by omega, HOK.out, (by
          obtain ⟨q1, q2, q3, q4⟩ := HL3.out
          exact ⟨q1, strm_mono q2 (by omega), q3, q4⟩), HT3.out⟩
        case measure => simp [intOf]; omega
      | false =>
        have hsz := sealO_size body
        have C := Lib.hid (fun w => SealOf_any body w (by omega))
        generalize sealO body = O at *
        obtain ⟨code, fe⟩ := O
        simp only at hsz C
        go_wp2_with fail
        with_reducible refine (C.out _).mono ?_
        rintro e w4 ⟨rfl, b4⟩
        have s4 := strm_below s3 b4
        have HL4 := Lib.hid (HL3.out.draw (grown_of_below b4 _) s4 hS1)
        have HT4 := Lib.hid (HT3.out.below b4)
        clear HL3 HT3 b4 s3 C
        go_wp2_with fail
        with_reducible refine (pick_at S _ [1, 2, 3] 3 _ _ _ _ s4 (by omega) rfl (by omega) (by omega) (by simp) (by simp)).mono ?_
        rintro e w5 ⟨most, hp5, rfl, k5, s5⟩
        have hq5 : 1 ≤ most ∧ most ≤ 3 := by
          simp only [List.mem_cons, List.mem_nil_iff, or_false] at hp5
          omega
        have HL5 := Lib.hid (HL4.out.draw k5 s5 hS1)
        have HT5 := Lib.hid (HT4.out.grown k5 (fun p off e => by injection e with e; injection e with e1; omega))
        clear HL4 HT4 k5 s4 hp5
        obtain ⟨r5a, r5b⟩ := hq5
        go_wp2_with fail
        with_reducible refine (pick_at S _ [1, 1, 2] 3 _ _ _ _ s5 (by omega) rfl (by omega) (by omega) (by simp) (by simp)).mono ?_
        rintro e w6 ⟨each, hp6, rfl, k6, s6⟩
        have hq6 : 1 ≤ each ∧ each ≤ 2 := by
          simp only [List.mem_cons, List.mem_nil_iff, or_false] at hp6
          omega
        have HL6 := Lib.hid (HL5.out.draw k6 s6 hS1)
        have HT6 := Lib.hid (HT5.out.grown k6 (fun p off e => by injection e with e; injection e with e1; omega))
        clear HL5 HT5 k6 s5 hp6
        obtain ⟨r6a, r6b⟩ := hq6
        go_wp2_with fail
        with_reducible refine (pick_at S _ [0, 10] 2 _ _ _ _ s6 (by omega) rfl (by omega) (by omega) (by simp) (by simp)).mono ?_
        rintro e w7 ⟨from_, hp7, rfl, k7, s7⟩
        have hq7 : 0 ≤ from_ ∧ from_ ≤ 10 := by
          simp only [List.mem_cons, List.mem_nil_iff, or_false] at hp7
          omega
        have HL7 := Lib.hid (HL6.out.draw k7 s7 hS1)
        have HT7 := Lib.hid (HT6.out.grown k7 (fun p off e => by injection e with e; injection e with e1; omega))
        clear HL6 HT6 k7 s6 hp7
        obtain ⟨r7a, r7b⟩ := hq7
        go_wp2_with fail
        with_reducible refine (pick_at S _ [50, 100, 4321440] 3 _ _ _ _ s7 (by omega) rfl (by omega) (by omega) (by simp) (by simp)).mono ?_
        rintro e w8 ⟨to_, hp8, rfl, k8, s8⟩
        have hq8 : 50 ≤ to_ ∧ to_ ≤ 4321440 := by
          simp only [List.mem_cons, List.mem_nil_iff, or_false] at hp8
          omega
        have HL8 := Lib.hid (HL7.out.draw k8 s8 hS1)
        have HT8 := Lib.hid (HT7.out.grown k8 (fun p off e => by injection e with e; injection e with e1; omega))
        clear HL7 HT7 k8 s7 hp8
        obtain ⟨r8a, r8b⟩ := hq8
        have own8 := HL8.out.1
        have hw8 := HL8.out.2.2.2
        go_wp2_with (at_builtin; refine wpList_append_own _ rfl _ _ 59 rfl (w.heap.size + 1) 144 i0 _ 6 64 Tryd.underlying59 hi hz0 hz1 hz2 rfl (by decide) _ _ _ rfl (own8.alloc _) ⟨w8.heap.size, 0, none⟩ 1 1 [.string code, .string ⟨#[116, 101, 110]⟩, .int .i64 most, .int .i64 each, .int .i64 from_, .int .i64 to_] rfl rfl ?c1 ?c2 ?c3 ?c4 ?c5 ?_)
        case c1 => exact cells_new w8 #[.string code, .string ⟨#[116, 101, 110]⟩, .int .i64 most, .int .i64 each, .int .i64 from_, .int .i64 to_] 144
        case c2 => simp [Value.oneCell']
        case c3 => unfold maxLen; omega
        case c4 => omega
        case c5 => simp; omega
        intro v2 w9 own9 hgrow9 hne9
        have HL9 := Lib.hid (HL8.out.snoc (x := ⟨code, ⟨#[116, 101, 110]⟩, most, each, from_, to_⟩) hS1 hw1 own9 hgrow9)
        have HT9 := Lib.hid ((Chg.of_grown (B := fun q => w.heap.size + 1 ≤ q) hgrow9 (fun q hq => (own8.lt q hq).1)).strs (HT8.out.below ((Below.refl _ _).alloc (Nat.le_refl _) _)) (fun p off e => by injection e with e; injection e with e1; omega))
        clear hne9 own9 hgrow9 HL8 HT8 own8
        go_wp2_with fail
        go_roundw
        case rel => exact ⟨k + 1, l ++ [⟨code, ⟨#[116, 101, 110]⟩, most, each, from_, to_⟩], by omega, by go_num, by simp; omega, fun x hx => (by
            rcases List.mem_append.1 hx with hx | hx
            · exact HOK.out x hx
            · obtain rfl := List.mem_singleton.1 hx
              refine ⟨by simp only; omega, by simp only; decide, ?_, ?_, ?_, ?_, ?_, ?_, ?_, ?_⟩ <;> (simp only; omega)), (by
            obtain ⟨q1, q2, q3, q4⟩ := HL9.out
            exact ⟨q1, strm_mono q2 (by omega), q3, q4⟩), HT9.out⟩
        case measure => simp [intOf]; omega
    · obtain rfl : k = 3 := by omega
      clear hT HT
      go_wp2_with fail
      with_reducible refine (flip_any S _ _ _ s2 (by omega) (by omega)).mono ?_
      rintro e w3 ⟨b, rfl, k3, s3⟩
      have HL3 := Lib.hid (HL.out.draw k3 s3 hS1)
      have own3 := HL3.out.1
      have HX := Lib.hid (HL3.out.gen (K' := K + 100) (P := fun l => l.length ≤ 3 ∧ ∀ x ∈ l, x.ok) hS1 (by omega) (fun x _ => x.len) ⟨hl, HOK.out⟩)
      clear HL k3 s2
      cases b with
      | false =>
        go_wp2_with fail
        go_ret
        exact HX.out
      | true =>
        rcases own3.2 with ⟨rfl, h0⟩ | ⟨g, cap, cur, rfl, hbg, hg, hnc, hcm, hcs, htake⟩
        · go_wp2_with fail
          go_ret
          exact HX.out
        · clear hg hcs htake
          by_cases hk0 : l.length = 0
          · have HX' := HX.out
            rw [hk0] at HX'
            have HX2 := Lib.hid HX'
            clear HX HX'
            rw [hk0]
            go_wp2_with fail
            go_ret
            exact HX2.out
          · have hlp : 0 < l.length := by omega
            clear HX
            generalize hn : l.length = n at *
            have HN := Lib.hid hn
            clear hn
            go_wp2_with fail
            with_reducible refine (next_any S _ _ _ s3 (by omega) (by omega)).mono ?_
            rintro e w4 ⟨r, ⟨hr0, hr1, -⟩, rfl, k4, s4⟩
            have hr2 := hr1 (by omega)
            obtain ⟨j, rfl⟩ := Int.eq_ofNat_of_zero_le hr0
            have hj : j < n := by omega
            have HL4 := Lib.hid (HL3.out.draw k4 s4 hS1)
            clear hr0 hr1 hr2 HL3 k4 s3 own3
            go_wp2_with fail
            with_reducible refine (next_any S _ _ _ s4 (by omega) (by omega)).mono ?_
            rintro e w5 ⟨r, ⟨hr0, hr1, -⟩, rfl, k5, s5⟩
            have hr2 := hr1 (by omega)
            have HL5 := Lib.hid (HL4.out.draw k5 s5 hS1)
            clear hr1 HL4 k5 s4
            have hjl : j < l.length := by have := HN.out; omega
            have hxok := Lib.hid (HOK.out l[j] (List.getElem_mem hjl))
            rcases (show r = 0 ∨ r = 1 ∨ r = 2 ∨ r = 3 by omega) with rfl | rfl | rfl | rfl
            · clear hr0 hr2
              go_wp2_with fail
              with_reducible refine (code_any S _ _ s5 (by omega)).mono ?_
              rintro e w6 ⟨s, hs0, rfl, k6, s6⟩
              have hs0 : s.size ≤ 600 := by omega
              have HL6 := Lib.hid (HL5.out.draw k6 s6 hS1)
              have own6 := HL6.out.1
              rw [HN.out] at own6
              have hc : w6.cell? ⟨g, j * 6 + 0, none⟩ = some (.string l[j].code) := by
                rw [own6.cellAt _ (by omega), fm_get 6 Cp.cells l (fun x _ => x.len) j 0 hjl (by omega)]
                rfl
              have hf : w6.frozen? ⟨g, j * 6 + 0, none⟩ = false := own6.frozenAt _
              have HS := Lib.hid (HL6.out.set (j := j) (i := 0) (u := .string s) (x' := ⟨s, l[j].offer, l[j].most, l[j].each, l[j].from_, l[j].to_⟩) hS1 hw1 HN.out (fun x _ => x.len) hjl (by omega) rfl)
              simp only [Nat.add_zero] at hc hf HS
              clear own6 HL6 HL5 k6 s6 s5
              go_wp2_with fail
              go_ret
              have := HS.out.gen (K' := K + 100) (P := fun l => l.length ≤ 3 ∧ ∀ x ∈ l, x.ok) hS1 (by omega) (fun x _ => x.len) ⟨by simp; have := HN.out; omega, fun x hx => by
                rcases List.mem_or_eq_of_mem_set hx with hx | rfl
                · exact HOK.out x hx
                · obtain ⟨o1, o2, o3, o4, o5, o6, o7, o8, o9, o10⟩ := hxok.out
                  exact ⟨hs0, o2, o3, o4, o5, o6, o7, o8, o9, o10⟩⟩
              exact this
            · clear hr0 hr2
              go_wp2_with fail
              with_reducible refine (one_at S _ [⟨#[]⟩, ⟨#[84, 101, 110]⟩] 2 _ _ _ _ s5 (by omega) rfl (by omega) (by omega) (by simp) (by simp)).mono ?_
              rintro e w6 ⟨s, hs, rfl, k6, s6⟩
              have hs1 : s.size ≤ 100 := by
                have h' : ∀ x ∈ ([⟨#[]⟩, ⟨#[84, 101, 110]⟩] : List ByteArray), x.size ≤ 100 := by decide
                exact h' _ hs
              have HL6 := Lib.hid (HL5.out.draw k6 s6 hS1)
              have own6 := HL6.out.1
              rw [HN.out] at own6
              have hc : w6.cell? ⟨g, j * 6 + 1, none⟩ = some (.string l[j].offer) := by
                rw [own6.cellAt _ (by omega), fm_get 6 Cp.cells l (fun x _ => x.len) j 1 hjl (by omega)]
                rfl
              have hf : w6.frozen? ⟨g, j * 6 + 1, none⟩ = false := own6.frozenAt _
              have HS := Lib.hid (HL6.out.set (j := j) (i := 1) (u := .string s) (x' := ⟨l[j].code, s, l[j].most, l[j].each, l[j].from_, l[j].to_⟩) hS1 hw1 HN.out (fun x _ => x.len) hjl (by omega) rfl)
              clear own6 HL6 HL5 k6 s6 s5 hs
              go_wp2_with fail
              go_ret
              have := HS.out.gen (K' := K + 100) (P := fun l => l.length ≤ 3 ∧ ∀ x ∈ l, x.ok) hS1 (by omega) (fun x _ => x.len) ⟨by simp; have := HN.out; omega, fun x hx => by
                rcases List.mem_or_eq_of_mem_set hx with hx | rfl
                · exact HOK.out x hx
                · obtain ⟨o1, o2, o3, o4, o5, o6, o7, o8, o9, o10⟩ := hxok.out
                  exact ⟨o1, hs1, o3, o4, o5, o6, o7, o8, o9, o10⟩⟩
              exact this
            · clear hr0 hr2
              go_wp2_with fail
              with_reducible refine (pick_at S _ [0, 1000001, 1] 3 _ _ _ _ s5 (by omega) rfl (by omega) (by omega) (by simp) (by simp)).mono ?_
              rintro e w6 ⟨v1, hv1, rfl, k6, s6⟩
              have hb1 : 0 ≤ v1 ∧ v1 ≤ 1000001 := by
                simp only [List.mem_cons, List.mem_nil_iff, or_false] at hv1
                omega
              have HL6 := Lib.hid (HL5.out.draw k6 s6 hS1)
              clear HL5 k6 s5 hv1
              go_wp2_with fail
              with_reducible refine (pick_at S _ [0, 1] 2 _ _ _ _ s6 (by omega) rfl (by omega) (by omega) (by simp) (by simp)).mono ?_
              rintro e w7 ⟨v2, hv2, rfl, k7, s7⟩
              have hb2 : 0 ≤ v2 ∧ v2 ≤ 1 := by
                simp only [List.mem_cons, List.mem_nil_iff, or_false] at hv2
                omega
              have HL7 := Lib.hid (HL6.out.draw k7 s7 hS1)
              have own6 := HL7.out.1
              rw [HN.out] at own6
              have hc : w7.cell? ⟨g, j * 6 + 2, none⟩ = some (.int .i64 l[j].most) := by
                rw [own6.cellAt _ (by omega), fm_get 6 Cp.cells l (fun x _ => x.len) j 2 hjl (by omega)]
                rfl
              have hf : w7.frozen? ⟨g, j * 6 + 2, none⟩ = false := own6.frozenAt _
              have HA := Lib.hid (HL7.out.set (j := j) (i := 2) (u := .int .i64 v1) (x' := ⟨l[j].code, l[j].offer, v1, l[j].each, l[j].from_, l[j].to_⟩) hS1 hw1 HN.out (fun x _ => x.len) hjl (by omega) rfl)
              have hjl2 : j < (l.set j ⟨l[j].code, l[j].offer, v1, l[j].each, l[j].from_, l[j].to_⟩).length := by simp; omega
              have HNS : Hid ((l.set j ⟨l[j].code, l[j].offer, v1, l[j].each, l[j].from_, l[j].to_⟩).length = n) := Lib.hid (by simp; exact HN.out)
              have ownb := HA.out.1
              rw [HNS.out] at ownb
              have hc2 : (w7.setCell ⟨g, j * 6 + 2, none⟩ (.int .i64 v1)).cell? ⟨g, j * 6 + 3, none⟩ = some (.int .i64 l[j].each) := by
                rw [ownb.cellAt _ (by omega), fm_get 6 Cp.cells _ (fun x _ => x.len) j 3 hjl2 (by omega)]
                simp [Cp.cells]
              have hf2 : (w7.setCell ⟨g, j * 6 + 2, none⟩ (.int .i64 v1)).frozen? ⟨g, j * 6 + 3, none⟩ = false := ownb.frozenAt _
              have HS := Lib.hid (HA.out.set (j := j) (i := 3) (u := .int .i64 v2) (x' := ⟨l[j].code, l[j].offer, v1, v2, l[j].from_, l[j].to_⟩) hS1 hw1 HNS.out (fun x _ => x.len) hjl2 (by omega) (by simp [Cp.cells]))
              rw [List.set_set] at HS
              clear own6 ownb HL6 HL7 HA k7 s6 s7 hv2
              go_wp2_with fail
              go_ret
              have := HS.out.gen (K' := K + 100) (P := fun l => l.length ≤ 3 ∧ ∀ x ∈ l, x.ok) hS1 (by omega) (fun x _ => x.len) ⟨by simp; have := HN.out; omega, fun x hx => by
                rcases List.mem_or_eq_of_mem_set hx with hx | rfl
                · exact HOK.out x hx
                · obtain ⟨o1, o2, o3, o4, o5, o6, o7, o8, o9, o10⟩ := hxok.out
                  exact ⟨o1, o2, (by simp only; omega), (by simp only; omega), (by simp only; omega), (by simp only; omega), o7, o8, o9, o10⟩⟩
              exact this
            · clear hr0 hr2
              go_wp2_with fail
              with_reducible refine (pick_at S _ [-1, 5] 2 _ _ _ _ s5 (by omega) rfl (by omega) (by omega) (by simp) (by simp)).mono ?_
              rintro e w6 ⟨v1, hv1, rfl, k6, s6⟩
              have hb1 : -1 ≤ v1 ∧ v1 ≤ 5 := by
                simp only [List.mem_cons, List.mem_nil_iff, or_false] at hv1
                omega
              have HL6 := Lib.hid (HL5.out.draw k6 s6 hS1)
              clear HL5 k6 s5 hv1
              go_wp2_with fail
              with_reducible refine (pick_at S _ [5, 6, 4321441] 3 _ _ _ _ s6 (by omega) rfl (by omega) (by omega) (by simp) (by simp)).mono ?_
              rintro e w7 ⟨v2, hv2, rfl, k7, s7⟩
              have hb2 : 5 ≤ v2 ∧ v2 ≤ 4321441 := by
                simp only [List.mem_cons, List.mem_nil_iff, or_false] at hv2
                omega
              have HL7 := Lib.hid (HL6.out.draw k7 s7 hS1)
              have own6 := HL7.out.1
              rw [HN.out] at own6
              have hc : w7.cell? ⟨g, j * 6 + 4, none⟩ = some (.int .i64 l[j].from_) := by
                rw [own6.cellAt _ (by omega), fm_get 6 Cp.cells l (fun x _ => x.len) j 4 hjl (by omega)]
                rfl
              have hf : w7.frozen? ⟨g, j * 6 + 4, none⟩ = false := own6.frozenAt _
              have HA := Lib.hid (HL7.out.set (j := j) (i := 4) (u := .int .i64 v1) (x' := ⟨l[j].code, l[j].offer, l[j].most, l[j].each, v1, l[j].to_⟩) hS1 hw1 HN.out (fun x _ => x.len) hjl (by omega) rfl)
              have hjl2 : j < (l.set j ⟨l[j].code, l[j].offer, l[j].most, l[j].each, v1, l[j].to_⟩).length := by simp; omega
              have HNS : Hid ((l.set j ⟨l[j].code, l[j].offer, l[j].most, l[j].each, v1, l[j].to_⟩).length = n) := Lib.hid (by simp; exact HN.out)
              have ownb := HA.out.1
              rw [HNS.out] at ownb
              have hc2 : (w7.setCell ⟨g, j * 6 + 4, none⟩ (.int .i64 v1)).cell? ⟨g, j * 6 + 5, none⟩ = some (.int .i64 l[j].to_) := by
                rw [ownb.cellAt _ (by omega), fm_get 6 Cp.cells _ (fun x _ => x.len) j 5 hjl2 (by omega)]
                simp [Cp.cells]
              have hf2 : (w7.setCell ⟨g, j * 6 + 4, none⟩ (.int .i64 v1)).frozen? ⟨g, j * 6 + 5, none⟩ = false := ownb.frozenAt _
              have HS := Lib.hid (HA.out.set (j := j) (i := 5) (u := .int .i64 v2) (x' := ⟨l[j].code, l[j].offer, l[j].most, l[j].each, v1, v2⟩) hS1 hw1 HNS.out (fun x _ => x.len) hjl2 (by omega) (by simp [Cp.cells]))
              rw [List.set_set] at HS
              clear own6 ownb HL6 HL7 HA k7 s6 s7 hv2
              go_wp2_with fail
              go_ret
              have := HS.out.gen (K' := K + 100) (P := fun l => l.length ≤ 3 ∧ ∀ x ∈ l, x.ok) hS1 (by omega) (fun x _ => x.len) ⟨by simp; have := HN.out; omega, fun x hx => by
                rcases List.mem_or_eq_of_mem_set hx with hx | rfl
                · exact HOK.out x hx
                · obtain ⟨o1, o2, o3, o4, o5, o6, o7, o8, o9, o10⟩ := hxok.out
                  exact ⟨o1, o2, o3, o4, o5, o6, (by simp only; omega), (by simp only; omega), (by simp only; omega), (by simp only; omega)⟩⟩
              exact this
end Go.Proofs.YtdnikegakcdcnaaDoor
