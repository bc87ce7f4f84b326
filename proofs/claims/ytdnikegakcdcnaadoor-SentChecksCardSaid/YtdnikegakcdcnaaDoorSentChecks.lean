/- The walk of the statement SentChecks. -/
import Derived.Test.YtdnikegakcdcnaaDoorRow
import Derived.Test.YtdnikegakcdcnaaDoorRows
import Derived.Test.YtdnikegakcdcnaaDoorGains
import Derived.Test.YtdnikegakcdcnaaDoorSentList
import Derived.Test.YtdnikegakcdcnaaDoorPathFn
import Derived.Test.YtdnikegakcdcnaaDoorPathOf
import Derived.Test.YtdnikegakcdcnaaDoorCheckGains
import Derived.Test.YtdnikegakcdcnaaDoorSentFault
import Derived.Test.YtdnikegakcdcnaaDoorMeasures
import Derived.Test.YtdnikegakcdcnaaDoorMask
import Derived.LaidMore
import Derived.Deep.DeepCutAuto
set_option linter.unusedVariables false
namespace Go.Proofs.YtdnikegakcdcnaaDoor
open Go.RowKit

theorem equal_ints (w : World) (v v' : Value) (l : List Int) (h : IntsIs w v l) (h' : IntsIs w v' l) (hl : l.length ≤ 9223372036854775807) :
    Calls Tryd.prog 21 #[v, v'] w fun e w' => e = .returned (.bool true) ∧ ∃ q, w' = w.drewN q := by
  obtain ⟨a, c, rfl, hI⟩ := h
  obtain ⟨b, d, rfl, hJ⟩ := h'
  cases l with
  | nil =>
    refine (Tryd.slices_Equal_int_empty a b c 0 d w (by decide)).mono ?_
    rintro e w' ⟨rfl, rfl⟩
    exact ⟨rfl, 0, rfl⟩
  | cons z l =>
    obtain ⟨p1, o1, rfl, -, -⟩ := hI 0 (by simp)
    obtain ⟨p2, o2, rfl, -, -⟩ := hJ 0 (by simp)
    refine (Tryd.slices_Equal_int p1 o1 (z :: l).length c p2 o2 (z :: l).length d (z :: l) (z :: l) w (Nat.le_refl _) (Nat.le_refl _) hl hl (fun j hj => ?_) (fun j hj => ?_)).mono ?_
    · obtain ⟨p, off, h1, h2, h3⟩ := hI j hj
      injection h1 with h1
      injection h1 with e1 e2
      subst e1 e2
      rw [h3, List.getD_eq_getElem?_getD, List.getElem?_eq_getElem hj]
      rfl
    · obtain ⟨p, off, h1, h2, h3⟩ := hJ j hj
      injection h1 with h1
      injection h1 with e1 e2
      subst e1 e2
      rw [h3, List.getD_eq_getElem?_getD, List.getElem?_eq_getElem hj]
      rfl
    · rintro e w' ⟨rfl, hw⟩
      exact ⟨by simp, hw⟩

theorem pathL_len (P : Snt → Bool) (l : List Snt) : (pathL P l).length ≤ 12 := by
  unfold pathL
  rw [List.length_drop]
  omega

/-- what the region 10 of SentChecks keeps -/
structure JS (wr0 : World) (z : Int) (g : Gn) (b : Msk) (v : Nat → Value) (wr : World) : Prop where
  below : Below wr0.heap.size wr0 wr
  p1 : b 1 = true → v 50 = .int .i64 z
  p2 : b 2 = true → v 51 = .agg #[.string g.id, .string g.person, .int .i64 g.at_, .int .i64 g.cents]
  p3 : b 3 = true → ∃ h, v 52 = .slice (some ⟨h, 0, none⟩) 1 1 ∧ wr.heap[h]? = some (.cells #[.string g.id, .string g.person, .int .i64 g.at_, .int .i64 g.cents] 35 (0, 0))
theorem blk_below {w w' : World} {h : Nat} {o : Obj} (hb : w.heap[h]? = some o) (b : Below w.heap.size w w') : w'.heap[h]? = some o := by
  refine (b.block h ?_).trans hb
  rcases Nat.lt_or_ge h w.heap.size with h' | h'
  · exact h'
  · rw [Array.getElem?_eq_none h'] at hb; cases hb
theorem JS.step {wr0 wr wr' : World} {z : Int} {g : Gn} {b b' : Msk} {v v' : Nat → Value} (h : JS wr0 z g b v wr) (bl : Below wr.heap.size wr wr')
    (q1 : b' 1 = true → v' 50 = .int .i64 z) (q2 : b' 2 = true → v' 51 = .agg #[.string g.id, .string g.person, .int .i64 g.at_, .int .i64 g.cents])
    (q3 : b' 3 = true → (b 3 = true ∧ v' 52 = v 52) ∨ ∃ h, v' 52 = .slice (some ⟨h, 0, none⟩) 1 1 ∧ wr'.heap[h]? = some (.cells #[.string g.id, .string g.person, .int .i64 g.at_, .int .i64 g.cents] 35 (0, 0))) : JS wr0 z g b' v' wr' := by
  refine ⟨h.below.trans (bl.mono h.below.size), q1, q2, fun e => ?_⟩
  rcases q3 e with ⟨e', ev⟩ | h'
  · obtain ⟨k, h1, h2⟩ := h.p3 e'
    exact ⟨k, ev.trans h1, blk_below h2 bl⟩
  · exact h'

set_option maxRecDepth 100000 in
set_option maxHeartbeats 4000000 in
theorem sentChecks_walk (a0 : Option Addr) (len0 cap0 : Nat) (z0 : List Int) (w : World) (w0 : IsRow .i64 w a0 len0 cap0 z0) (ht : True) :
    Calls Tryd.prog 3 #[.slice a0 len0 cap0] w fun e w' => e = .returned (.bool true) ∧ Below w.heap.size w w' := by
  obtain ⟨S, hBS, hp, s0, g0⟩ := strm_begin w0
  clear w0 ht
  go_enter Tryd.func3, Tryd.ntmps3
  go_wp2_with fail
  clear hp
  with_reducible refine (sentList_any S _ 20 _ s0 (by omega) (by omega) (by omega)).mono ?_
  rintro e w1 ⟨a, c, l, ⟨hll, hlo⟩, rfl, hI, hc, hcm, hag, k1, s1⟩
  have g1 := grown_trans g0 k1
  have hHI := Lib.hid hI
  have hHO := Lib.hid hlo
  have hHA := Lib.hid hag
  clear k1 g0 s0 hI hlo hag
  generalize hn : l.length = n at *
  have HN := Lib.hid hn
  clear hn
  go_wp2_with fail
  with_reducible refine (gains_any S _ _ s1 (by omega)).mono ?_
  rintro e w2 ⟨ga, gc, gl, ⟨hgl, hgo⟩, rfl, hGI, hgc, hgcm, hgag, k2, s2⟩
  have g2 := grown_trans g1 k2
  have HI2 := Lib.hid (hHI.out.grown k2 hHA.out)
  have HGI2 := Lib.hid hGI
  have HGO := Lib.hid hgo
  have HGA := Lib.hid hgag
  clear k2 g1 s1 hHI hGI hgo hgag
  generalize hgn : gl.length = gn at *
  have HGN := Lib.hid hgn
  clear hgn
  go_wp2_with fail
  with_reducible refine (CheckSent_any _ l _ _ _ HN.out (by omega) HI2.out hHO.out).mono ?_
  rintro e w3 ⟨rfl, b3⟩
  have HI3 := Lib.hid (HI2.out.below b3)
  have HGI3 := Lib.hid (HGI2.out.below b3)
  have g3 := grown_trans g2 (grown_of_below b3 _)
  have s3 := strm_below s2 b3
  clear b3 g2 s2 HI2 HGI2
  go_wp2_with fail
  with_reducible refine (SentFault_any _ l _ _ _ HN.out (by omega) hc hcm HI3.out hHO.out).mono ?_
  rintro e w4 ⟨rfl, b4⟩
  have HI4 := Lib.hid (HI3.out.below b4)
  have HGI4 := Lib.hid (HGI3.out.below b4)
  have g4 := grown_trans g3 (grown_of_below b4 _)
  have s4 := strm_below s3 b4
  clear b4 g3 s3 HI3 HGI3
  go_wp2_with fail
  with_reducible refine (CheckGains_any _ gl _ _ _ HGN.out (by omega) HGI4.out HGO.out).mono ?_
  rintro e w5 ⟨rfl, b5⟩
  have HI5 := Lib.hid (HI4.out.below b5)
  have HGI5 := Lib.hid (HGI4.out.below b5)
  have g5 := grown_trans g4 (grown_of_below b5 _)
  have s5 := strm_below s4 b5
  clear b5 g4 s4 HI4 HGI4
  go_wp2_with fail
  with_reducible refine (GainsFault_any _ gl _ _ _ HGN.out (by omega) hgc hgcm HGI5.out HGO.out).mono ?_
  rintro e w6 ⟨rfl, b6⟩
  have HI6 := Lib.hid (HI5.out.below b6)
  have HGI6 := Lib.hid (HGI5.out.below b6)
  have g6 := grown_trans g5 (grown_of_below b6 _)
  have s6 := strm_below s5 b6
  clear b6 g5 s5 HI5 HGI5
  go_wp2_with fail
  with_reducible refine (next_any S _ _ _ s6 (by omega) (by omega)).mono ?_
  rintro e w7 ⟨at_, ⟨ha0, ha1, -⟩, rfl, k7, s7⟩
  have ha2 := ha1 (by omega)
  have g7 := grown_trans g6 k7
  have HI7 := Lib.hid (HI6.out.grown k7 hHA.out)
  have HGI7 := Lib.hid (HGI6.out.grown k7 HGA.out)
  clear k7 g6 s6 HI6 HGI6 ha1
  have hS7 := strm_lt s7
  have hw7 := g7.size
  go_upto_if 35 with (fail)
  go_cut [6] (fun p wx => ∃ g : Gn, p = .pointer (some ⟨w7.heap.size, 0, none⟩) ∧ g.ok ∧ XB wx w7.heap.size g.cells ∧ RAt wx a 4 Snt.cells l ∧ Strm wx S 181 ∧ w.grownBy wx (some S.g))
  case first =>
    as_aux_lemma =>
      by_cases hg0 : gn = 0
      · subst hg0
        go_wp2_with fail
        go_meet
        refine ⟨⟨⟨#[103]⟩, ⟨#[97, 110, 110]⟩, at_, 5⟩, rfl, ⟨by show 1 ≤ 100; omega, by show 3 ≤ 100; omega, by simp only; omega, by simp only; omega, by simp only; omega, by simp only; omega⟩, XB.new w7 _ _, HI7.out.alloc _, strm_alloc s7 _, grown_alloc g7 _⟩
      · have hlp : 0 < gl.length := by have := HGN.out; omega
        have hgok := HGO.out gl[0] (List.getElem_mem hlp)
        obtain ⟨p, off, rfl, hp, c0, c1, c2, c3⟩ := HGI7.out.at4 hlp (v0 := .string gl[0].id) (v1 := .string gl[0].person) (v2 := .int .i64 gl[0].at_) (v3 := .int .i64 gl[0].cents) rfl
        simp only [Nat.zero_mul, Nat.add_zero] at c0 c1 c2 c3
        have hpq : ¬ w7.heap.size = p := by omega
        have HOKG := Lib.hid hgok
        clear hgok
        go_wp2_with fail
        go_meet
        exact ⟨gl[0], rfl, HOKG.out, XB.new w7 _ _, HI7.out.alloc _, strm_alloc s7 _, grown_alloc g7 _⟩
  case rest =>
    obtain ⟨g, rfl, hgok, hX, hI, s8, g8⟩ := hcut
    generalize w7.heap.size = q at *
    have hql := hX.1
    have hqg : q ≠ S.g := by omega
    clear HGI7 HI7 s7 g7 HGA HGO HGN hgc hgcm hgl gl ha0 ha2 at_ hw7
    have HI8 := Lib.hid hI
    have HX8 := Lib.hid hX
    clear hI hX
    go_wp2_with fail
    with_reducible refine (pick_at S _ [1, 10, 100, 1000, 0, 4321441] 6 _ _ _ _ s8 (by omega) rfl (by omega) (by omega) (by simp) (by simp)).mono ?_
    rintro e w9 ⟨span, hspan, rfl, k9, s9⟩
    have hX9 := HX8.out.grown k9 (by simp; omega)
    have HI9 := Lib.hid (HI8.out.grown k9 hHA.out)
    have g9 := grown_trans g8 k9
    have hsp : 0 ≤ span ∧ span ≤ 4321441 := by
      simp only [List.mem_cons, List.mem_nil_iff, or_false] at hspan
      omega
    clear hspan g8 k9 s8 HI8 HX8
    have HX9 := Lib.hid hX9
    obtain ⟨c0, c1, c2, c3⟩ := hX9.at4
    have hql9 := hX9.1
    clear hX9 hql
    go_wp2_with fail
    with_reducible refine (Path_any _ l _ _ g _ _ HN.out (by omega) HI9.out hHO.out hgok).mono ?_
    rintro e w10 ⟨v, rfl, hv, b10⟩
    have HV := Lib.hid hv
    have HI10 := Lib.hid (HI9.out.below b10)
    have hX10 := HX9.out.below b10
    have g10 := grown_trans g9 (grown_of_below b10 _)
    clear hv s9 HX9 c0 c1 c2 c3 hql9 g9 HI9 b10
    go_wp2_with fail
    refine wp_region_any (by kernel_rfl) ?_
    change wpAny _ _ _ _ _ _ _ w10.drew
    have HX11 := Lib.hid (show XB w10.drew q g.cells from hX10)
    have HI11 := Lib.hid (show RAt w10.drew a 4 Snt.cells l from HI10.out)
    have b11 : Below w10.heap.size w10 w10.drew := (Below.refl _ _).drew
    have g11 := grown_drew g10
    have HV11 := Lib.hid (fun h => (HV.out h).below b11)
    clear HV HI10 hX10 g10 b11
    generalize w10.drew = w11 at *
    refine wpAny_take (i := 0) (oi := ⟨some 49, _, _, _, _, _⟩) (v := .slice a n c) rfl (by kernel_rfl) (by kernel_rfl) (by kernel_rfl) (fun _ _ _ h => h) (Or.inl ⟨by rfl, fun w => by go_simp⟩) ?_
    refine wpAny_mask (n := 4) (m := 7) #[true, false, false, false, false, false, false, false] [1, 2, 3] (fun i => if i = 3 then [2] else []) [50, 51, 52] (fun d => if d = 50 then u50 else if d = 51 then u51 else u52) (JS w11 (sentE l) g) rfl (by decide) (by kernel_rfl) (by kernel_rfl) ?st ?hs ?hend
    case st => exact ⟨Below.refl _ _, fun e => (by cases e), fun e => (by cases e), fun e => (by cases e)⟩
    case hs =>
      intro i hi b u wx hbi hD hJ
      simp only [List.mem_cons, List.mem_nil_iff, or_false] at hi
      have HIx := Lib.hid (HI11.out.below hJ.below)
      have HXx := Lib.hid (HX11.out.below hJ.below)
      have HJ := Lib.hid hJ
      rcases hi with rfl | rfl | rfl
      · refine wpOp_calm (o := ⟨some 50, ?r1, ?r2, ?r3, ?r4, ?r5⟩) ?ri ?rg ?_
        case ri => exact rfl
        case rg => exact rfl
        intro K' Q' hK'
        have HK := Lib.hid hK'
        clear hK'
        clear hJ
        simp only [setAll, List.foldl]
        go_simp
        with_reducible refine (SentFault_any _ l _ _ _ HN.out (by omega) hc hcm HIx.out hHO.out).mono ?_
        rintro e wy ⟨rfl, by_⟩
        exact HK.out _ _ ⟨upd u 50 (.int .i64 (sentE l)), by kernel_rfl, HJ.out.step by_ (fun _ => rfl) (fun e => HJ.out.p2 e) (fun e => .inl ⟨e, rfl⟩)⟩
      · refine wpOp_calm (o := ⟨some 51, ?r21, ?r22, ?r23, ?r24, ?r25⟩) ?r2i ?r2g ?_
        case r2i => exact rfl
        case r2g => exact rfl
        intro K' Q' hK'
        have HK := Lib.hid hK'
        clear hK'
        clear hJ
        obtain ⟨c0, c1, c2, c3⟩ := HXx.out.at4
        simp only [setAll, List.foldl]
        go_simp
        exact HK.out _ _ ⟨upd u 51 (.agg #[.string g.id, .string g.person, .int .i64 g.at_, .int .i64 g.cents]), by kernel_rfl, HJ.out.step (Below.refl _ _) (fun e => HJ.out.p1 e) (fun _ => rfl) (fun e => .inl ⟨e, rfl⟩)⟩
      · refine wpOp_calm (o := ⟨some 52, ?r31, ?r32, ?r33, ?r34, ?r35⟩) ?r3i ?r3g ?_
        case r3i => exact rfl
        case r3g => exact rfl
        intro K' Q' hK'
        have HK := Lib.hid hK'
        clear hK'
        have h51 := HJ.out.p2 (hD 2 (by simp))
        clear hJ
        simp only [setAll, List.foldl, h51]
        go_simp
        exact HK.out _ _ ⟨upd (upd u 51 (.agg #[.string g.id, .string g.person, .int .i64 g.at_, .int .i64 g.cents])) 52 (.slice (some ⟨wx.heap.size, 0, none⟩) 1 1), by kernel_rfl, by
          rw [upd_same h51]
          exact HJ.out.step ((Below.refl _ _).alloc (Nat.le_refl _) _) (fun e => HJ.out.p1 e) (fun e => HJ.out.p2 e) (fun _ => .inr ⟨_, rfl, heap_alloc_new _ _⟩)⟩
    case hend =>
      intro b u wx hb hJ
      have h50 := hJ.p1 (hb 1 (by simp))
      have h51 := hJ.p2 (hb 2 (by simp))
      obtain ⟨h, h52, hblk⟩ := hJ.p3 (hb 3 (by simp))
      have HB := Lib.hid hJ.below
      simp only [setAll, List.foldl, h50, h51, h52]
      clear h50 h51 h52 hb hJ
      refine wpAny_ready (rs := [4]) (by kernel_rfl) (by simp) ?_
      refine AllReady.cons rfl (fun K4 hK4 => ?_) AllReady.nil
      go_simp
      with_reducible refine (GainsFault_any _ [g] 1 1 _ rfl (by omega) (by omega) (by unfold maxLen; omega) (gn_block hblk) (by simpa using hgok)).mono ?_
      rintro e wy ⟨rfl, by_⟩
      have HBy := Lib.hid (HB.out.trans (by_.mono HB.out.size))
      refine hK4 _ _ ?_
      clear hK4 K4 hblk HB by_
      refine wpAny_ready (rs := [5]) (by kernel_rfl) (by simp) ?_
      refine AllReady.cons rfl (fun K5 hK5 => ?_) AllReady.nil
      go_simp
      refine hK5 _ _ ?_
      clear hK5 K5
      refine wpAny_ready (rs := [6]) (by kernel_rfl) (by simp) ?_
      refine AllReady.cons rfl (fun K6 hK6 => ?_) AllReady.nil
      go_simp
      have hor := orErr_any wy.heap.size [sentE l, gainE [g]] 2 2 30 (wy.alloc (.cells #[.int .i64 (sentE l), .int .i64 (gainE [g])] 30)) rfl (by omega) (heap_alloc_new _ _)
      with_reducible refine hor.mono ?_
      rintro e wz ⟨rfl, rfl⟩
      refine hK6 _ _ ?_
      clear hK6 K6
      refine wpAny_ready (rs := [7]) (by kernel_rfl) (by simp) ?_
      refine AllReady.cons rfl (fun K7 hK7 => ?_) AllReady.nil
      go_simp
      refine hK7 _ _ ?_
      clear hK7 K7
      refine wpAny_done (by kernel_rfl) ?_ _
      have g12 := grown_alloc (grown_trans g11 (grown_of_below HBy.out _)) (.cells #[.int .i64 (sentE l), .int .i64 (gainE [g])] 30)
      have HI12 := Lib.hid ((HI11.out.below HBy.out).alloc (.cells #[.int .i64 (sentE l), .int .i64 (gainE [g])] 30))
      have HV12 := Lib.hid (fun h => ((HV11.out h).below HBy.out).below ((Below.refl _ _).alloc (Nat.le_refl _) (.cells #[.int .i64 (sentE l), .int .i64 (gainE [g])] 30)))
      have HX12 := Lib.hid ((HX11.out.below HBy.out).alloc (.cells #[.int .i64 (sentE l), .int .i64 (gainE [g])] 30))
      clear HV11 HI11 HX11 g11 HBy hor
      generalize wy.alloc (.cells #[.int .i64 (sentE l), .int .i64 (gainE [g])] 30) = w12 at *
      by_cases hW : orE [sentE l, gainE [g]] = 0
      · have h1 : sentE l = 0 := by
          unfold orE at hW; split at hW
          · assumption
          · contradiction
        have h2 : gainE [g] = 0 := by
          unfold orE at hW; rw [if_pos h1] at hW; unfold orE at hW; split at hW
          · assumption
          · contradiction
        by_cases hr : 1 ≤ span ∧ span ≤ 4321440
        · have hp : pathErr l g span = 0 := by unfold pathErr; rw [if_neg (by simpa using h1), if_neg (by simpa using h2), if_pos hr]
          have hV := HV12.out hp
          have hmom := gainE_mom h2
          have HM := Lib.hid (sentE_mom h1)
          rw [hW, hp]
          obtain ⟨hr1, hr2⟩ := hr
          have HVV := Lib.hid hV
          clear HV12 hV hp h1 h2 hW
          go_wp2_with fail
          with_reducible refine (measures_any _).mono ?_
          rintro e w13 ⟨rfl, b13⟩
          have g13 := grown_trans g12 (grown_of_below b13 _)
          have HI13 := Lib.hid (HI12.out.below b13)
          obtain ⟨c0, c1, c2, c3⟩ := (HX12.out.below b13).at4
          have HV13 := Lib.hid (HVV.out.below b13)
          clear HI12 HX12 HVV b13 g12
          go_wp2_with fail
          with_reducible refine (PathOf_any _ l _ _ g _ _ HN.out (by omega) HI13.out HM.out hmom.1 hmom.2).mono ?_
          rintro e w14 ⟨v', rfl, hv', b14⟩
          have g14 := grown_trans g13 (grown_of_below b14 _)
          have hv := HV13.out.below b14
          clear HV13 HI13 b14 g13 c0 c1 c2 c3
          go_wp2_with fail
          with_reducible refine (equal_ints _ _ _ _ hv hv' (by have := pathL_len (pathP g span) l; omega)).mono ?_
          rintro e w15 ⟨rfl, q15, rfl⟩
          go_wp2_with fail
          go_ret
          exact ⟨rfl, below_of_grown (grownBy_drewN g14 q15) hBS⟩
        · have hp : pathErr l g span = 1 := by unfold pathErr; rw [if_neg (by simpa using h1), if_neg (by simpa using h2), if_neg hr]
          rw [hW, hp]
          clear HV12 hp h1 h2 hW
          have hr' : span < 1 ∨ 4321440 < span := by omega
          clear hr
          rcases hr' with hr | hr
          · go_wp2_with fail
            with_reducible refine (measures_any _).mono ?_
            rintro e w13 ⟨rfl, b13⟩
            go_wp2_with fail
            go_ret
            exact ⟨rfl, below_of_grown (grown_trans g12 (grown_of_below b13 _)) hBS⟩
          · go_wp2_with fail
            with_reducible refine (measures_any _).mono ?_
            rintro e w13 ⟨rfl, b13⟩
            go_wp2_with fail
            go_ret
            exact ⟨rfl, below_of_grown (grown_trans g12 (grown_of_below b13 _)) hBS⟩
      · have hp : pathErr l g span = orE [sentE l, gainE [g]] := by
          unfold orE orE orE at hW ⊢
          unfold pathErr
          by_cases h1 : sentE l = 0
          · rw [if_pos h1] at hW ⊢
            rw [if_neg (by simpa using h1)]
            by_cases h2 : gainE [g] = 0
            · rw [if_pos h2] at hW; exact absurd rfl hW
            · rw [if_pos h2, if_neg h2]
          · rw [if_pos h1, if_neg h1]
        rw [hp]
        generalize orE [sentE l, gainE [g]] = W at *
        clear HV12 hp
        go_wp2_with fail
        with_reducible refine (measures_any _).mono ?_
        rintro e w13 ⟨rfl, b13⟩
        go_wp2_with fail
        go_ret
        exact ⟨rfl, below_of_grown (grown_trans g12 (grown_of_below b13 _)) hBS⟩
/-- the walk asks nothing of the listed tables -/
theorem sentChecks_tabs {P : Prop} (_ : P) : True := trivial
end Go.Proofs.YtdnikegakcdcnaaDoor
