/- The maker of gains: Stream.Gains. -/
import Derived.Test.YtgdagknjnidmiaaGreatDoorM1
set_option linter.unusedVariables false
namespace Go.Proofs.YtgdagknjnidmiaaGreatDoor
open Go.RowKit
attribute [local go_sem ↓] Go.wp_at_zero Go.wp_at_succ

theorem infoGain : (Tryz.prog.info? 102).map (fun i => (i.zero, i.size, i.bytes)) = some (some (.agg #[.string ⟨#[]⟩, .string ⟨#[]⟩, .int .i64 0, .int .i64 0]), 4, 48) := by kernel_rfl

theorem lst_at {α : Type} {w wr : World} {b0 K : Nat} {S : SC} {t : TypeId} {C : Nat} {f : α → List Value} {l : List α} {g n cap j i : Nat} {u : Value} (h : LstR w b0 wr S K t C f (.slice (some ⟨g, 0, none⟩) n cap) l) (hn : l.length = n) (hf : ∀ x ∈ l, (f x).length = C) (hj : j < l.length) (hi : i < C) (hv : (f l[j])[i]? = some u) :
    wr.cell? ⟨g, j * C + i, none⟩ = some u ∧ wr.frozen? ⟨g, j * C + i, none⟩ = false := by
  subst hn
  have own := h.1
  have hlt : j * C + i < l.length * C := by
    have : (j + 1) * C ≤ l.length * C := Nat.mul_le_mul_right _ hj
    rw [Nat.add_mul] at this
    omega
  exact ⟨by rw [own.cellAt _ hlt, fm_get C f l hf j i hj hi]; exact hv, own.frozenAt _⟩
set_option maxRecDepth 100000 in
set_option maxHeartbeats 4000000 in
theorem gains_any (S : SC) (K : Nat) (w : World) (s0 : Strm w S K) (hK : K ≤ 10000) :
    Calls Tryz.prog 19 #[S.p] w (GenR S (K + 60) w 4 Gn.cells fun l => l.length ≤ 20 ∧ ∀ x ∈ l, x.ok) := by
  obtain ⟨i0, hi, hz0, hz1, hz2⟩ := info_parts infoGain
  go_enter Tryz.func19, Tryz.ntmps19
  go_wp2_with fail
  with_reducible refine (next_any S _ _ _ s0 (by omega) (by omega)).mono ?_
  rintro e w1 ⟨m', ⟨hm0, hmx, -⟩, rfl, k1, s1⟩
  have hmx2 := hmx (by omega)
  obtain ⟨m, rfl⟩ := Int.eq_ofNat_of_zero_le hm0
  have hS1 := strm_lt s1
  have hw1 := k1.size
  have L1 : LstR w w1.heap.size w1 S (K + 1) 102 4 Gn.cells (.slice none 0 0) [] := ⟨World.ownsRow_nil _ _ _ _, s1, k1, Nat.le_refl _⟩
  clear k1 s1 hm0 hmx s0
  go_wp2_with fail
  go_loopw [3, 4, 8] (fun v _ i wr => ∃ (k : Nat) (l : List Gn), k ≤ m ∧ i = .int .i64 k ∧ l.length = k ∧ (∀ x ∈ l, x.ok) ∧ LstR w w1.heap.size wr S (K + 1 + 4 * k) 102 4 Gn.cells v l) (fun _ _ i _ => m - (intOf i).toNat)
  case atStart => exact ⟨0, [], Nat.zero_le _, rfl, rfl, by simp, L1⟩
  case round =>
    obtain ⟨k, l, hk, rfl, hl, hok, hL⟩ := hrel
    have HL := Lib.hid hL
    have HOK := Lib.hid hok
    have hll := Lib.hid hl
    have s2 := hL.2.1
    clear hL L1 hok hl
    by_cases hlt : k < m
    · obtain ⟨R, hR⟩ : ∃ R, Utf8.encode (97 + (k : Int)) = R := ⟨_, rfl⟩
      have hRs : R.size ≤ 4 := by rw [← hR]; exact enc_size _ (by omega) (by omega)
      go_wp2_with fail
      clear hR
      have HID := Lib.hid (size_pre 103 R hRs)
      generalize (⟨#[103]⟩ : ByteArray) ++ R = id at *
      have hids := HID.out
      with_reducible refine (key_at S _ [⟨#[97, 110, 110]⟩, ⟨#[97, 110, 110]⟩, ⟨#[98, 111]⟩, ⟨#[99, 121]⟩] 4 _ _ _ _ s2 (by omega) rfl (by omega) (by omega) (by simp) (by simp)).mono ?_
      rintro e w3 ⟨person, hpe, rfl, k3, s3⟩
      have hpes : person.size ≤ 100 := by
        rcases hpe with h | h <;> simp only [List.mem_cons, List.mem_nil_iff, or_false] at h
        · rcases h with rfl | rfl | rfl | rfl <;> decide
        · rcases h with rfl | rfl | rfl <;> decide
      have HL3 := Lib.hid (HL.out.draw k3 s3 hS1)
      clear HL k3 s2 hpe
      go_wp2_with fail
      with_reducible refine (next_any S _ _ _ s3 (by omega) (by omega)).mono ?_
      rintro e w4 ⟨at_, ⟨ha0, ha1, -⟩, rfl, k4, s4⟩
      have ha2 := ha1 (by omega)
      have HL4 := Lib.hid (HL3.out.draw k4 s4 hS1)
      clear HL3 k4 s3 ha1
      go_wp2_with fail
      with_reducible refine (pick_at S _ [0, 1, 99, 100, 1000, 1000000000000] 6 _ _ _ _ s4 (by omega) rfl (by omega) (by omega) (by simp) (by simp)).mono ?_
      rintro e w5 ⟨cents, hce, rfl, k5, s5⟩
      have hce' : 0 ≤ cents ∧ cents ≤ 1000000000000 := by
        simp only [List.mem_cons, List.mem_nil_iff, or_false] at hce
        omega
      have HL5 := Lib.hid (HL4.out.draw k5 s5 hS1)
      clear HL4 k5 s4 s5 hce
      have own5 := HL5.out.1
      have hw5 := HL5.out.2.2.2
      have hnl : l.length ≤ 20 := by have := hll.out; omega
      go_wp2_with (at_builtin; refine wpList_append_own _ rfl _ _ 50 rfl w1.heap.size 102 i0 _ 4 48 Tryz.underlying50 hi hz0 hz1 hz2 rfl (by decide) _ _ _ rfl (own5.alloc _) ⟨w5.heap.size, 0, none⟩ 1 1 [.string id, .string person, .int .i64 at_, .int .i64 cents] rfl rfl ?c1 ?c2 ?c3 ?c4 ?c5 ?_)
      case c1 => exact cells_new w5 #[.string id, .string person, .int .i64 at_, .int .i64 cents] 102
      case c2 => simp [Value.oneCell']
      case c3 => unfold maxLen; omega
      case c4 => omega
      case c5 => simp; omega
      intro v2 w6 own6 hgrow6 hne6
      have HL6 := Lib.hid (HL5.out.snoc (x := ⟨id, person, at_, cents⟩) hS1 hw1 own6 hgrow6)
      clear hne6 own6 hgrow6 HL5 own5
      go_wp2_with fail
      go_roundw
      case rel => exact ⟨k + 1, l ++ [⟨id, person, at_, cents⟩], by omega, by go_num, by simp [hll.out], fun x hx => by
          rcases List.mem_append.1 hx with hx | hx
          · exact HOK.out x hx
          · obtain rfl := List.mem_singleton.1 hx
            exact ⟨by simp only; omega, hpes, by simp only; omega, by simp only; omega, by simp only; omega, by simp only; omega⟩, by
          obtain ⟨q1, q2, q3, q4⟩ := HL6.out
          exact ⟨q1, strm_mono q2 (by omega), q3, q4⟩⟩
      case measure => simp [intOf]; omega
    · obtain rfl : k = m := by omega
      have hkl := hll.out
      have hnl : l.length ≤ 20 := by omega
      go_wp2_with fail
      with_reducible refine (flip_any S _ _ _ s2 (by omega) (by omega)).mono ?_
      rintro e w3 ⟨b, rfl, k3, s3⟩
      have HL3 := Lib.hid (HL.out.draw k3 s3 hS1)
      have own3 := HL3.out.1
      have HX := Lib.hid (HL3.out.gen (K' := K + 60) (P := fun l => l.length ≤ 20 ∧ ∀ x ∈ l, x.ok) hS1 (by omega) (fun x _ => x.len) ⟨by omega, HOK.out⟩)
      clear HL k3 s2
      cases b with
      | false =>
        go_wp2_with fail
        go_ret
        exact HX.out
      | true =>
        rcases own3.2 with ⟨rfl, h0⟩ | ⟨g, cap, cur, rfl, hbg, hg, hnc, hcm, hcs, htake⟩
        · go_wp2_with fail
          go_ret
          exact HX.out
        · clear hg hcs htake
          by_cases hk0 : l.length = 0
          · have HX' := HX.out
            rw [hk0] at HX'
            have HX2 := Lib.hid HX'
            clear HX HX'
            rw [hk0]
            go_wp2_with fail
            go_ret
            exact HX2.out
          · have hlp : 0 < l.length := by omega
            clear HX hkl
            generalize hn : l.length = n at *
            have HN := Lib.hid hn
            clear hn
            go_wp2_with fail
            with_reducible refine (next_any S _ _ _ s3 (by omega) (by omega)).mono ?_
            rintro e w4 ⟨r, ⟨hr0, hr1, -⟩, rfl, k4, s4⟩
            have hr2 := hr1 (by omega)
            obtain ⟨j, rfl⟩ := Int.eq_ofNat_of_zero_le hr0
            have hj : j < n := by omega
            have HL4 := Lib.hid (HL3.out.draw k4 s4 hS1)
            clear hr0 hr1 hr2 HL3 k4 s3 own3
            have hjl : j < l.length := by have := HN.out; omega
            have hxok := Lib.hid (HOK.out l[j] (List.getElem_mem hjl))
            go_wp2_with fail
            refine wp_region_any (by kernel_rfl) ?_
            refine wpAny_take (i := 0) (oi := ⟨some 42, _, _, _, _, _⟩) (v := .pointer (some ⟨g, j * 4, none⟩)) rfl (by kernel_rfl) (by kernel_rfl) (by kernel_rfl) (fun _ _ _ h => h) (Or.inl ⟨by rfl, fun w => by go_simp⟩) ?_
            refine wpAny_take (i := 1) (oi := ⟨some 43, _, _, _, _, _⟩) (v := .pointer (some ⟨g, j * 4, none⟩)) rfl (by kernel_rfl) (by kernel_rfl) (by kernel_rfl) (fun _ _ _ h => h) (Or.inl ⟨by rfl, fun w => by go_simp⟩) ?_
            refine wpAny_take (i := 2) (oi := ⟨some 44, _, _, _, _, _⟩) (v := .pointer (some ⟨g, j * 4, none⟩)) rfl (by kernel_rfl) (by kernel_rfl) (by kernel_rfl) (fun _ _ _ h => h) (Or.inl ⟨by rfl, fun w => by go_simp⟩) ?_
            refine wpAny_take (i := 3) (oi := ⟨some 45, _, _, _, _, _⟩) (v := S.p) rfl (by kernel_rfl) (by kernel_rfl) (by kernel_rfl) (fun _ _ _ h => h) (Or.inl ⟨by rfl, fun w => by go_simp⟩) ?_
            refine wpAny_take (i := 4) (oi := ⟨some 46, _, _, _, _, _⟩) (v := .pointer (some ⟨g, j * 4, none⟩)) rfl (by kernel_rfl) (by kernel_rfl) (by kernel_rfl) (fun _ _ _ h => h) (Or.inl ⟨by rfl, fun w => by go_simp⟩) ?_
            refine wpAny_take (i := 5) (oi := ⟨some 47, _, _, _, _, _⟩) (v := .pointer (some ⟨g, j * 4, none⟩)) rfl (by kernel_rfl) (by kernel_rfl) (by kernel_rfl) (fun _ _ _ h => h) (Or.inl ⟨by rfl, fun w => by go_simp⟩) ?_
            refine wpAny_take (i := 6) (oi := ⟨some 48, _, _, _, _, _⟩) (v := .pointer (some ⟨g, j * 4, none⟩)) rfl (by kernel_rfl) (by kernel_rfl) (by kernel_rfl) (fun _ _ _ h => h) (Or.inl ⟨by rfl, fun w => by go_simp⟩) ?_
            refine wpAny_take (i := 10) (oi := ⟨some 52, _, _, _, _, _⟩) (v := S.p) rfl (by kernel_rfl) (by kernel_rfl) (by kernel_rfl) (fun _ _ _ h => h) (Or.inl ⟨by rfl, fun w => by go_simp⟩) ?_
            refine wpAny_take (i := 13) (oi := ⟨some 55, _, _, _, _, _⟩) (v := S.p) rfl (by kernel_rfl) (by kernel_rfl) (by kernel_rfl) (fun _ _ _ h => h) (Or.inl ⟨by rfl, fun w => by go_simp⟩) ?_
            refine wpAny_take (i := 14) (oi := ⟨some 56, _, _, _, _, _⟩) (v := .pointer (some ⟨g, j * 4, none⟩)) rfl (by kernel_rfl) (by kernel_rfl) (by kernel_rfl) (fun _ _ _ h => h) (Or.inl ⟨by rfl, fun w => by go_simp⟩) ?_
            refine wpAny_take (i := 15) (oi := ⟨some 57, _, _, _, _, _⟩) (v := .pointer (some ⟨g, j * 4, none⟩)) rfl (by kernel_rfl) (by kernel_rfl) (by kernel_rfl) (fun _ _ _ h => h) (Or.inl ⟨by rfl, fun w => by go_simp⟩) ?_
            refine wpAny_take (i := 16) (oi := ⟨some 58, _, _, _, _, _⟩) (v := .pointer (some ⟨g, j * 4 + 2, none⟩)) rfl (by kernel_rfl) (by kernel_rfl) (by kernel_rfl) (fun _ _ _ h => h) (Or.inl ⟨by rfl, fun w => by go_simp⟩) ?_
            refine wpAny_gains [49, 50, 51, 53, 54, 59, 60, 61] (fun _ => undef) (JG w w1.heap.size S (K + 1 + 4 * k + 2) g n cap l l[j]) (by kernel_rfl) (by kernel_rfl) (by kernel_rfl) ?st ?s7 ?s8 ?s9 ?s11 ?s12 ?s17 ?s18 ?s19 ?send
            case st =>
              refine ⟨HL4.out.draw (grown_drew (World.grownBy.refl _ _)) (strm_drew s4) hS1, ?_, ?_, ?_, ?_, ?_, ?_, ?_, ?_⟩ <;> intro e <;> cases e
            case s7 =>
              intro b8 b9 b11 b12 b17 b18 b19 v wx hJ
              refine wpOp_calm (o := ⟨some 49, ?q1_7, ?q2_7, ?q3_7, ?q4_7, ?q5_7⟩) ?hi_7 ?hg_7 ?_
              case hi_7 => exact rfl
              case hg_7 => exact rfl
              intro K' Q' hK'
              have HJ := Lib.hid hJ
              have HK := Lib.hid hK'
              have c0 := (lst_cells hJ.lst hjl).1
              clear hJ hK'
              simp only [setAll, List.foldl]
              go_simp
              exact HK.out _ _ ⟨upd v 49 (.string l[j].id), by kernel_rfl, HJ.out.s7⟩
            case s17 =>
              intro b7 b8 b9 b11 b12 b18 b19 v wx hJ
              refine wpOp_calm (o := ⟨some 59, ?q1_17, ?q2_17, ?q3_17, ?q4_17, ?q5_17⟩) ?hi_17 ?hg_17 ?_
              case hi_17 => exact rfl
              case hg_17 => exact rfl
              intro K' Q' hK'
              have HJ := Lib.hid hJ
              have HK := Lib.hid hK'
              have c0 := (lst_cells hJ.lst hjl).2.2.1
              clear hJ hK'
              simp only [setAll, List.foldl]
              go_simp
              exact HK.out _ _ ⟨upd v 59 (.int .i64 l[j].at_), by kernel_rfl, HJ.out.s17⟩
            case s8 =>
              intro b9 b11 b12 b17 b18 b19 v wx hJ
              refine wpOp_calm (o := ⟨some 50, ?q1_8, ?q2_8, ?q3_8, ?q4_8, ?q5_8⟩) ?hi_8 ?hg_8 ?_
              case hi_8 => exact rfl
              case hg_8 => exact rfl
              intro K' Q' hK'
              have HJ := Lib.hid hJ
              have HK := Lib.hid hK'
              have HC := Lib.hid (hJ.s8 hS1)
              have h49 := Lib.hid (hJ.p7 rfl)
              clear hJ hK'
              simp only [setAll, List.foldl, h49.out]
              go_simp
              exact HK.out _ _ ⟨upd (upd v 49 (.string l[j].id)) 50 (.slice (some ⟨wx.heap.size, 0, none⟩) 3 3), by kernel_rfl, by rw [upd_same h49.out]; exact HC.out⟩
            case s11 =>
              intro b7 b8 b9 b12 b17 b18 b19 v wx hJ
              refine wpOp_calm (o := ⟨some 53, ?q1_11, ?q2_11, ?q3_11, ?q4_11, ?q5_11⟩) ?hi_11 ?hg_11 ?_
              case hi_11 => exact rfl
              case hg_11 => exact rfl
              intro K' Q' hK'
              have HJ := Lib.hid hJ
              have HK := Lib.hid hK'
              have HC := Lib.hid (hJ.s11 hS1)
              clear hJ hK'
              simp only [setAll, List.foldl]
              go_simp
              exact HK.out _ _ ⟨_, by kernel_rfl, HC.out⟩
            case s18 =>
              intro b7 b8 b9 b11 b12 b19 v wx hJ
              refine wpOp_calm (o := ⟨some 60, ?q1_18, ?q2_18, ?q3_18, ?q4_18, ?q5_18⟩) ?hi_18 ?hg_18 ?_
              case hi_18 => exact rfl
              case hg_18 => exact rfl
              intro K' Q' hK'
              have HJ := Lib.hid hJ
              have HK := Lib.hid hK'
              have HC := Lib.hid (hJ.s18 hS1)
              have h59 := Lib.hid (hJ.p17 rfl)
              clear hJ hK'
              simp only [setAll, List.foldl, h59.out]
              go_simp
              exact HK.out _ _ ⟨upd (upd v 59 (.int .i64 l[j].at_)) 60 (.slice (some ⟨wx.heap.size, 0, none⟩) 3 3), by kernel_rfl, by rw [upd_same h59.out]; exact HC.out⟩
            case s9 =>
              intro b7 b11 b12 b17 b18 b19 v wx hJ
              refine wpOp_calm (o := ⟨some 51, ?q1_9, ?q2_9, ?q3_9, ?q4_9, ?q5_9⟩) ?hi_9 ?hg_9 ?_
              case hi_9 => exact rfl
              case hg_9 => exact rfl
              intro K' Q' hK'
              have HJ := Lib.hid hJ
              have HK := Lib.hid hK'
              obtain ⟨h, hv, hne, hb⟩ := hJ.p8 rfl
              have C := one_any S _ h [⟨#[]⟩, ⟨#[103, 97]⟩, l[j].id] 3 3 wx hJ.lst.2.1 (by have := Bool.toNat_le false; have := Bool.toNat_le b12; have := Bool.toNat_le b19; omega) rfl (by omega) (by omega) hb hne
              rw [← hv] at C
              have HC := Lib.hid C
              clear hJ hK' hv hb C
              simp only [setAll, List.foldl]
              go_simp
              refine HC.out.mono ?_
              rintro e w' ⟨s, hs, rfl, k', st⟩
              have hs' : s.size ≤ 100 := by
                simp only [List.mem_cons, List.mem_nil_iff, or_false] at hs
                rcases hs with rfl | rfl | rfl
                · decide
                · decide
                · exact hxok.out.1
              exact HK.out _ _ ⟨upd v 51 (.string s), by kernel_rfl, HJ.out.s9 hS1 k' st hs'⟩
            case s12 =>
              intro b7 b8 b17 b18 b19 v wx hJ
              refine wpOp_calm (o := ⟨some 54, ?q1_12, ?q2_12, ?q3_12, ?q4_12, ?q5_12⟩) ?hi_12 ?hg_12 ?_
              case hi_12 => exact rfl
              case hg_12 => exact rfl
              intro K' Q' hK'
              have HJ := Lib.hid hJ
              have HK := Lib.hid hK'
              obtain ⟨h, hv, hne, hb⟩ := hJ.p11 rfl
              have C := pick_any S _ h [-1, 1000000000001, 5] 3 3 wx hJ.lst.2.1 (by have := Bool.toNat_le true; have := Bool.toNat_le false; have := Bool.toNat_le b19; omega) rfl (by omega) (by omega) hb hne
              rw [← hv] at C
              have HC := Lib.hid C
              clear hJ hK' hv hb C
              simp only [setAll, List.foldl]
              go_simp
              refine HC.out.mono ?_
              rintro e w' ⟨s, hs, rfl, k', st⟩
              have hs' : -1 ≤ s ∧ s ≤ 1000000000001 := by
                simp only [List.mem_cons, List.mem_nil_iff, or_false] at hs
                omega
              exact HK.out _ _ ⟨upd v 54 (.int .i64 s), by kernel_rfl, HJ.out.s12 hS1 k' st hs'⟩
            case s19 =>
              intro b7 b8 b9 b11 b17 v wx hJ
              refine wpOp_calm (o := ⟨some 61, ?q1_19, ?q2_19, ?q3_19, ?q4_19, ?q5_19⟩) ?hi_19 ?hg_19 ?_
              case hi_19 => exact rfl
              case hg_19 => exact rfl
              intro K' Q' hK'
              have HJ := Lib.hid hJ
              have HK := Lib.hid hK'
              obtain ⟨h, hv, hne, hb⟩ := hJ.p18 rfl
              have C := pick_any S _ h [-1, l[j].at_, 4321440] 3 3 wx hJ.lst.2.1 (by have := Bool.toNat_le b9; have := Bool.toNat_le true; have := Bool.toNat_le false; omega) rfl (by omega) (by omega) hb hne
              rw [← hv] at C
              have HC := Lib.hid C
              clear hJ hK' hv hb C
              simp only [setAll, List.foldl]
              go_simp
              refine HC.out.mono ?_
              rintro e w' ⟨s, hs, rfl, k', st⟩
              have hs' : s = -1 ∨ s = l[j].at_ ∨ s = 4321440 := by
                simp only [List.mem_cons, List.mem_nil_iff, or_false] at hs
                exact hs
              exact HK.out _ _ ⟨upd v 61 (.int .i64 s), by kernel_rfl, HJ.out.s19 hS1 k' st hs'⟩
            case send =>
              intro v wx hJ
              obtain ⟨s, hv1, hs1⟩ := hJ.p9 rfl
              obtain ⟨z, hv2, hz2a, hz2b⟩ := hJ.p12 rfl
              obtain ⟨z', hv3, hz3⟩ := hJ.p19 rfl
              have hn := HN.out
              have L0 := hJ.lst
              obtain ⟨c0, f0⟩ := lst_at L0 hn (fun x _ => x.len) hjl (i := 0) (by omega) (u := .string l[j].id) rfl
              have L1 := L0.set (j := j) (i := 0) (u := .string s) (x' := ⟨s, l[j].person, l[j].at_, l[j].cents⟩) hS1 hw1 hn (fun x _ => x.len) hjl (by omega) rfl
              obtain ⟨c1, f1⟩ := lst_at L1 (by simpa using hn) (fun x _ => x.len) (j := j) (by simpa using hjl) (i := 3) (by omega) (u := .int .i64 l[j].cents) (by rw [List.getElem_set_self]; rfl)
              have L2 := L1.set (j := j) (i := 3) (u := .int .i64 z) (x' := ⟨s, l[j].person, l[j].at_, z⟩) hS1 hw1 (by simpa using hn) (fun x _ => x.len) (by simpa using hjl) (by omega) (by rw [List.getElem_set_self]; rfl)
              obtain ⟨c2, f2⟩ := lst_at L2 (by simpa using hn) (fun x _ => x.len) (j := j) (by simpa using hjl) (i := 2) (by omega) (u := .int .i64 l[j].at_) (by rw [List.getElem_set_self]; rfl)
              have L3 := L2.set (j := j) (i := 2) (u := .int .i64 z') (x' := ⟨s, l[j].person, z', z⟩) hS1 hw1 (by simpa using hn) (fun x _ => x.len) (by simpa using hjl) (by omega) (by rw [List.getElem_set_self]; rfl)
              simp only [Nat.add_zero, List.set_set] at c0 f0 c1 f1 c2 f2 L3
              have HL := Lib.hid L3
              clear L0 L1 L2 L3 hJ
              simp only [setAll, List.foldl, hv1, hv2, hv3]
              clear hv1 hv2 hv3
              refine wpAny_take (i := 20) (oi := ⟨some 62, _, _, _, _, _⟩) (v := (.pointer (some ⟨g, j * 4, none⟩))) rfl (by kernel_rfl) (by kernel_rfl) (by kernel_rfl) (fun _ _ _ h => h) (Or.inl ⟨by rfl, fun w => by go_simp⟩) ?_
              refine wpAny_take (i := 21) (oi := ⟨some 63, _, _, _, _, _⟩) (v := (.pointer (some ⟨g, j * 4, none⟩))) rfl (by kernel_rfl) (by kernel_rfl) (by kernel_rfl) (fun _ _ _ h => h) (Or.inl ⟨by rfl, fun w => by go_simp⟩) ?_
              refine wpAny_ready (rs := [22]) (by kernel_rfl) (by simp) ?_
              refine AllReady.cons rfl (fun K22 hK22 => ?_) AllReady.nil
              go_simp
              refine hK22 _ _ ?_
              clear hK22 K22
              refine wpAny_take (i := 23) (oi := ⟨some 64, _, _, _, _, _⟩) (v := (.pointer (some ⟨g, j * 4, none⟩))) rfl (by kernel_rfl) (by kernel_rfl) (by kernel_rfl) (fun _ _ _ h => h) (Or.inl ⟨by rfl, fun w => by go_simp⟩) ?_
              refine wpAny_take (i := 24) (oi := ⟨some 65, _, _, _, _, _⟩) (v := (.pointer (some ⟨g, j * 4 + 3, none⟩))) rfl (by kernel_rfl) (by kernel_rfl) (by kernel_rfl) (fun _ _ _ h => h) (Or.inl ⟨by rfl, fun w => by go_simp⟩) ?_
              refine wpAny_ready (rs := [25]) (by kernel_rfl) (by simp) ?_
              refine AllReady.cons rfl (fun K25 hK25 => ?_) AllReady.nil
              go_simp
              refine hK25 _ _ ?_
              clear hK25 K25
              refine wpAny_take (i := 26) (oi := ⟨some 66, _, _, _, _, _⟩) (v := (.pointer (some ⟨g, j * 4, none⟩))) rfl (by kernel_rfl) (by kernel_rfl) (by kernel_rfl) (fun _ _ _ h => h) (Or.inl ⟨by rfl, fun w => by go_simp⟩) ?_
              refine wpAny_take (i := 27) (oi := ⟨some 67, _, _, _, _, _⟩) (v := (.pointer (some ⟨g, j * 4 + 2, none⟩))) rfl (by kernel_rfl) (by kernel_rfl) (by kernel_rfl) (fun _ _ _ h => h) (Or.inl ⟨by rfl, fun w => by go_simp⟩) ?_
              refine wpAny_ready (rs := [28]) (by kernel_rfl) (by simp) ?_
              refine AllReady.cons rfl (fun K28 hK28 => ?_) AllReady.nil
              go_simp
              refine hK28 _ _ ?_
              clear hK28 K28
              refine wpAny_done (by kernel_rfl) ?_ _
              go_wp2_with fail
              go_ret
              have hx := hxok.out
              obtain ⟨o1, o2, o3, o4, o5, o6⟩ := hx
              have := HL.out.gen (K' := K + 60) (P := fun l => l.length ≤ 20 ∧ ∀ x ∈ l, x.ok) hS1 (by simp; omega) (fun x _ => x.len) ⟨by simp; have := HN.out; omega, fun x hx => by
                rcases List.mem_or_eq_of_mem_set hx with hx | rfl
                · exact HOK.out x hx
                · exact ⟨hs1, o2, by simp only; omega, by simp only; omega, by simp only; omega, by simp only; omega⟩⟩
              simpa using this
end Go.Proofs.YtgdagknjnidmiaaGreatDoor
