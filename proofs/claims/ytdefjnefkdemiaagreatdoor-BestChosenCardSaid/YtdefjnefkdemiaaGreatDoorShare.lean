/- The contract of offer.share. -/
import Derived.Test.YtdefjnefkdemiaaGreatDoorRows3
import Derived.Test.YtdefjnefkdemiaaGreatDoorNats
import Derived.Test.YtdefjnefkdemiaaGreatDoorShareSort
import Derived.Test.YtdefjnefkdemiaaGreatDoorDealt
import Derived.Deep.RegionLaw
set_option linter.unusedVariables false
namespace Go.Proofs.YtdefjnefkdemiaaGreatDoor
open Go.RowKit Deal

theorem info_i64 : (Tryz.prog.info? 3).map (fun i => (i.zero, i.size, i.bytes)) = some (some (.int .i64 0), 1, 8) := by kernel_rfl
theorem info_u64 : (Tryz.prog.info? 119).map (fun i => (i.zero, i.size, i.bytes)) = some (some (.int .u64 0), 1, 8) := by kernel_rfl

/-- what the three lists hold after k rounds -/
def shOut (c : Nat) (ws : List Nat) (k : Nat) : List Value := (List.range k).map fun j => .int .i64 (qN c ws j : Nat)
def shOrd (k : Nat) : List Value := (List.range k).map fun (j : Nat) => .int .i64 (j : Int)
def shRest (c : Nat) (ws : List Nat) (k : Nat) : List Value := (List.range k).map fun j => .int .u64 (rN c ws j : Nat)
def shOwn (c : Nat) (ws : List Nat) (k : Nat) (v1 v2 v3 : Value) : List Own :=
  [⟨3, 1, v1, k, shOut c ws k⟩, ⟨3, 1, v2, k, shOrd k⟩, ⟨119, 1, v3, k, shRest c ws k⟩]
theorem shOwn_succ (c : Nat) (ws : List Nat) (k q r : Nat) (v1 v2 v3 : Value) (hq : q = qN c ws k) (hr : r = rN c ws k) :
    [⟨3, 1, v1, k + 1, shOut c ws k ++ [.int .i64 q]⟩, ⟨3, 1, v2, k + 1, shOrd k ++ [.int .i64 k]⟩, ⟨119, 1, v3, k + 1, shRest c ws k ++ [.int .u64 r]⟩] = shOwn c ws (k + 1) v1 v2 v3 := by
  subst hq hr
  simp [shOwn, shOut, shOrd, shRest, List.range_succ]

theorem box_at {w : World} {c : Nat} {v : Value} {t : TypeId} (h : w.heap[c]? = some (.cells #[v] t (0, 0))) : w.cell? ⟨c, 0, none⟩ = some v := by simp [World.cell?, h]
theorem box_far {w W : World} {c : Nat} {v : Value} {t : TypeId} (h : w.heap[c]? = some (.cells #[v] t (0, 0))) (hR : w.grownBy W none) : W.cell? ⟨c, 0, none⟩ = some v := by
  refine box_at (t := t) ((hR.block c ?_ (by simp)).trans h)
  rcases Nat.lt_or_ge c w.heap.size with h' | h'
  · exact h'
  · rw [Array.getElem?_eq_none h'] at h; cases h
theorem box_free {w : World} {c : Nat} {v : Value} {t : TypeId} (h : w.heap[c]? = some (.cells #[v] t (0, 0))) : w.frozen? ⟨c, 0, none⟩ = false := by simp [World.frozen?, h]
theorem box_kept {w w1 : World} {c : Nat} {o : Obj} (h : w.heap[c]? = some o) (hb : Below (c + 1) w w1) : w1.heap[c]? = some o := (hb.block c (by omega)).trans h

theorem box_set {w : World} {c : Nat} {v u : Value} {t : TypeId} (h : w.heap[c]? = some (.cells #[v] t (0, 0))) : (w.setCell ⟨c, 0, none⟩ u).heap[c]? = some (.cells #[u] t (0, 0)) := by
  simp [World.setCell, Array.getElem?_modify, h]
theorem share_end {c : Nat} {ws : List Nat} {k q r : Nat} {v1 v2 v3 x3 : Value} {w wx w1 w2 w3 : World} {t : TypeId} (hsx : w.heap.size + 1 ≤ wx.heap.size)
    (hO : Owns (w.heap.size + 1) w3 [⟨3, 1, v1, k + 1, shOut c ws k ++ [.int .i64 q]⟩, ⟨3, 1, v2, k + 1, shOrd k ++ [.int .i64 k]⟩, ⟨119, 1, v3, k + 1, shRest c ws k ++ [.int .u64 r]⟩])
    (hq : q = qN c ws k) (hr : r = rN c ws k) (hBx : Below w.heap.size w wx) (hB1 : Below (w.heap.size + 1) wx w1) (hB2 : Below (w.heap.size + 1) w1 w2) (hB3 : Below (w.heap.size + 1) w2 w3)
    (hX : wx.heap[w.heap.size]? = some (.cells #[x3] t (0, 0))) (hs3 : w.heap.size + 1 ≤ w3.heap.size) :
    ∃ v3', Owns (w.heap.size + 1) (w3.setCell ⟨w.heap.size, 0, none⟩ v3) (shOwn c ws (k + 1) v1 v2 v3') ∧ (w3.setCell ⟨w.heap.size, 0, none⟩ v3).heap[w.heap.size]? = some (.cells #[v3'] t (0, 0)) ∧
      Below w.heap.size w (w3.setCell ⟨w.heap.size, 0, none⟩ v3) ∧ w.heap.size + 1 ≤ (w3.setCell ⟨w.heap.size, 0, none⟩ v3).heap.size := by
  refine ⟨v3, ?_, box_set (box_kept (box_kept (box_kept hX hB1) hB2) hB3), ?_, by simpa [World.setCell] using hs3⟩
  · rw [← shOwn_succ c ws k q r v1 v2 v3 hq hr]
    exact hO.set (by omega) 0 _
  · exact (((hBx.trans (hB1.mono (by omega))).trans (hB2.mono (by omega))).trans (hB3.mono (by omega))).setCell (Nat.le_refl _) _

set_option maxRecDepth 100000 in
set_option maxHeartbeats 40000000 in
theorem share_any (c : Nat) (a : Option Addr) (ws : List Nat) (n cp : Nat) (w : World) (hc : c ≤ 1000000000000) (hn : ws.length = n) (hn0 : 0 < n) (hn1 : n < 20) (hr : natsAt w a ws) (hb : ∀ x ∈ ws, x ≤ 1000000000000) (hs0 : 0 < ws.sum) (hs1 : ws.sum ≤ 20000000000000) :
    Calls Tryz.prog 112 #[.int .i64 c, .slice a n cp] w fun e w' => ∃ g cap, e = .returned (.slice (some ⟨g, 0, none⟩) n cap) ∧ IntsAt w' (some ⟨g, 0, none⟩) (dealL false c ws) ∧ Below w.heap.size w w' := by
  obtain ⟨i0, hi, hz0, hz1, hz2⟩ := info_parts info_i64
  obtain ⟨j0, hj, hy0, hy1, hy2⟩ := info_parts info_u64
  have HB := Lib.hid hb
  have HN := Lib.hid hn
  have HR := Lib.hid hr
  clear hb hn hr
  go_enter Tryz.func112, Tryz.ntmps112
  go_wp2
  go_loop [5, 8, 23] (fun s _ i => ∃ k : Nat, k ≤ n ∧ i = .int .i64 k ∧ s = .int .i64 ((ws.take k).sum : Nat)) (fun _ _ i => n - (intOf i).toNat)
  case atStart => exact ⟨0, Nat.zero_le _, rfl, rfl⟩
  case round =>
    obtain ⟨k, hk, rfl, rfl⟩ := hrel
    have s1 := sum_take_le ws k
    by_cases hlt : k < n
    · have hkz : k < ws.length := by have := HN.out; omega
      obtain ⟨p, off, rfl, hp, hcell⟩ := HR.out.at_ hkz
      have z1 := HB.out ws[k] (List.getElem_mem hkz)
      have HS := Lib.hid (sum_take_succ ws k hkz)
      generalize hz : ws[k] = z at *
      clear hz
      generalize (ws.take k).sum = s at *
      go_wp2
      go_round
      case rel => exact ⟨k + 1, by omega, by go_num, by rw [HS.out]; go_num⟩
      case measure => simp [intOf]; omega
    · have hT : ws.take k = ws := List.take_of_length_le (by have := HN.out; omega)
      rw [hT]
      clear hT s1
      generalize hS : ws.sum = S at *
      have H1 := Lib.hid hS
      clear hS
      go_wp2_with fail
      go_loopw [6, 9, 10, 33] (fun lf v1 v2 i wr => ∃ (k : Nat) (x1 x2 x3 : Value), k ≤ n ∧ x1 = v1 ∧ x2 = v2 ∧ i = .int .i64 k ∧ lf = .int .i64 ((c : Int) - (qSum c ws k : Nat)) ∧ qSum c ws k ≤ c ∧
          Owns (w.heap.size + 1) wr (shOwn c ws k x1 x2 x3) ∧ wr.heap[w.heap.size]? = some (.cells #[x3] 120 (0, 0)) ∧ Below w.heap.size w wr ∧ w.heap.size + 1 ≤ wr.heap.size) (fun _ _ _ i _ => n - (intOf i).toNat)
      case atStart =>
        refine ⟨0, .slice none 0 0, .slice none 0 0, .slice none 0 0, Nat.zero_le _, rfl, rfl, rfl, congrArg (Value.int .i64) (by rw [qSum_zero]; omega), by rw [qSum_zero]; exact Nat.zero_le _, ?_, heap_alloc_new w _, (Below.refl _ _).alloc (Nat.le_refl _) _, by simp⟩
        refine ⟨fun r hr => ?_, by simp [shOwn, Value.ownBlock]⟩
        simp only [shOwn, List.mem_cons, List.mem_nil_iff, or_false] at hr
        rcases hr with rfl | rfl | rfl <;> exact World.ownsRow_nil _ _ _ _
      case round =>
        obtain ⟨k, x1, x2, x3, hk, rfl, rfl, rfl, rfl, hle, hO, hbox, hB, hsz⟩ := hrel
        have HO := Lib.hid hO
        clear hO
        by_cases hlt : k < n
        · have hkz : k < ws.length := by have := HN.out; omega
          obtain ⟨p, off, rfl, hp, hcell⟩ := HR.out.at_ hkz
          have hcell' := (hB.cell (p := ⟨p, off + k, none⟩) hp).trans hcell
          have z1 := HB.out ws[k] (List.getElem_mem hkz)
          generalize hz : ws[k] = z at *
          have HZ := Lib.hid hz
          have HX := Lib.hid hbox
          have HBW := Lib.hid hB
          have hcb : wr.cell? ⟨w.heap.size, 0, none⟩ = some x3 := by simp [World.cell?, hbox]
          have hfb : wr.frozen? ⟨w.heap.size, 0, none⟩ = false := by simp [World.frozen?, hbox]
          clear hz hbox hB hcell
          have hzS : z ≤ S := by
            rw [← H1.out, ← HZ.out]
            exact elem_le_sum ws k hkz
          go_wp2_with fail
          with_reducible refine (mul64 c z _ (by omega) (by omega)).mono ?_
          rintro e w' ⟨⟨m1, m2, hm, rfl⟩, rfl⟩
          go_wp2_with fail
          with_reducible refine (div_of_mul c z S m1 m2 _ hm (by omega) (prod_lt c z S (by omega) hzS hs0)).mono ?_
          rintro e w' ⟨⟨q, r, hqr, rfl⟩, x, rfl⟩
          obtain ⟨hq, hr⟩ := quo_facts c z S q r hqr hzS hs0
          clear hm
          go_upto_region 14 with fail
          go_cut [9, 10] (fun s9 s10 wx => ∃ v3', Owns (w.heap.size + 1) wx (shOwn c ws (k + 1) s9 s10 v3') ∧ wx.heap[w.heap.size]? = some (.cells #[v3'] 120 (0, 0)) ∧ Below w.heap.size w wx ∧ w.heap.size + 1 ≤ wx.heap.size)
          case first => as_aux_lemma =>
            have HOx : Hid (Owns (w.heap.size + 1) (wr.drewN x) [⟨3, 1, x1, k, shOut c ws k⟩, ⟨3, 1, x2, k, shOrd k⟩, ⟨119, 1, x3, k, shRest c ws k⟩]) := Lib.hid (Owns.drewN HO.out x)
            have HXx : Hid ((wr.drewN x).heap[w.heap.size]? = some (.cells #[x3] 120 (0, 0))) := Lib.hid HX.out
            have hsx : w.heap.size + 1 ≤ (wr.drewN x).heap.size := hsz
            have hfx : (wr.drewN x).frozen? ⟨w.heap.size, 0, none⟩ = false := hfb
            have HBx : Hid (Below w.heap.size w (wr.drewN x)) := Lib.hid ⟨HBW.out.os, HBW.out.tape, HBW.out.output, HBW.out.size, HBW.out.block⟩
            clear HO HX hsz hfb hcb hcell'
            have ewq : IntKind.i64.wrap (q : Int) = q := by rw [IntKind.wrap_i64]; omega
            have HQK : Hid (q = qN c ws k ∧ r = rN c ws k) := Lib.hid ⟨by unfold qN; rw [hqr.1, H1.out, ← HZ.out]; simp [hkz], by unfold rN; rw [hqr.2, H1.out, ← HZ.out]; simp [hkz]⟩
            clear hqr
            generalize wr.drewN x = wx at *
            -- ARMS
            have hcbx := box_at HXx.out
            have hfbx := box_free HXx.out
            have hnbx := cell_more hcbx
            have hncx := cell_more2 hcbx
            have hndx := cell_more3 hcbx
            go_region_law (first
                | (refine step_append_lies (o := ⟨some 58, _, _, _, _, _⟩) _ (by rfl) (.tmp 54) (.tmp 57) 22 (by rfl) (w.heap.size + 1) 3 i0 (.int .i64 0) 1 8 Tryz.underlying22 hi hz0 hz1 hz2 rfl (by omega) _ k _ (by rfl) ((HOx.out.step (by (repeat first | exact grown_refl _ _ | refine grown_alloc ?_ _ | refine grown_drew ?_))).at_ [] [⟨3, 1, x2, k, shOrd k⟩, ⟨119, 1, x3, k, shRest c ws k⟩] ⟨3, 1, x1, k, shOut c ws k⟩) ⟨_, 0, none⟩ 1 1 [.int .i64 q] (by rfl) (by rfl) (news_one (by (repeat first | (refine new_cell ?_; simp; done) | refine old_cell ?_ | refine drew_cell ?_))) (by simp [Value.oneCell']) (by omega) (by unfold maxLen; omega) (by omega) (by first | omega | (simp; omega)) _ rfl ?_
                   intro g1 cap1 w1 hown1 hgrow1 hat1 hlt1
                   have X := Owns.app (H := wx.heap.size) [] [⟨3, 1, x2, k, shOrd k⟩, ⟨119, 1, x3, k, shRest c ws k⟩] ⟨3, 1, x1, k, shOut c ws k⟩ HOx.out (by (repeat first | exact grown_refl _ _ | refine grown_alloc ?_ _ | refine grown_drew ?_)) (by first | omega | (simp; omega)) hown1 hgrow1 hat1 (fun g hg => ((HOx.out.own ⟨3, 1, x1, k, shOut c ws k⟩ (by simp)).lt g hg).2)
                   have hsz1 := X.2.1.size
                   have hsw1 := hgrow1.size
                   try rw [heap_drew] at hsw1
                   try simp only [World.size_alloc] at hsw1
                   have HO1 := Lib.hid X.1
                   have HB1 := Lib.hid X.2.1
                   have HK1 := Lib.hid X.2.2
                   clear X hown1 hgrow1 hat1 hlt1
                   have hcb1 := box_at (box_kept HXx.out HB1.out)
                   have hfb1 := box_free (box_kept HXx.out HB1.out)
                   have hnb1 := cell_more hcb1
                   have hnc1 := cell_more2 hcb1
                   have hsx1 : w.heap.size + 1 ≤ w1.heap.size := by omega
                   have hsy1 : w.heap.size < w1.heap.size := by omega)
                | (refine step_append_lies (o := ⟨some 62, _, _, _, _, _⟩) _ (by rfl) (.tmp 59) (.tmp 61) 22 (by rfl) (w.heap.size + 1) 3 i0 (.int .i64 0) 1 8 Tryz.underlying22 hi hz0 hz1 hz2 rfl (by omega) _ k _ (by rfl) ((HO1.out.step (by (repeat first | exact grown_refl _ _ | refine grown_alloc ?_ _ | refine grown_drew ?_))).at_ [⟨3, 1, .slice (some ⟨g1, 0, none⟩) (k + 1) cap1, k + 1, shOut c ws k ++ [.int .i64 q]⟩] [⟨119, 1, x3, k, shRest c ws k⟩] ⟨3, 1, x2, k, shOrd k⟩) ⟨_, 0, none⟩ 1 1 [.int .i64 k] (by rfl) (by rfl) (news_one (by (repeat first | (refine new_cell ?_; simp; done) | (refine HK1.out _ _ ?_ ?_ ?_ <;> first | omega | (simp; done) | (simp; omega) | (repeat first | (refine new_cell ?_; simp; done) | refine old_cell ?_ | refine drew_cell ?_)) | refine old_cell ?_ | refine drew_cell ?_))) (by simp [Value.oneCell']) (by omega) (by unfold maxLen; omega) (by omega) (by first | omega | (simp; omega)) _ rfl ?_
                   intro g2 cap2 w2 hown2 hgrow2 hat2 hlt2
                   have X := Owns.app (H := wx.heap.size) [⟨3, 1, .slice (some ⟨g1, 0, none⟩) (k + 1) cap1, k + 1, shOut c ws k ++ [.int .i64 q]⟩] [⟨119, 1, x3, k, shRest c ws k⟩] ⟨3, 1, x2, k, shOrd k⟩ HO1.out (by (repeat first | exact grown_refl _ _ | refine grown_alloc ?_ _ | refine grown_drew ?_)) (by first | omega | (simp; omega)) hown2 hgrow2 hat2 (fun g hg => ((HOx.out.own ⟨3, 1, x2, k, shOrd k⟩ (by simp)).lt g hg).2)
                   have hsz2 := X.2.1.size
                   have hsw2 := hgrow2.size
                   try rw [heap_drew] at hsw2
                   try simp only [World.size_alloc] at hsw2
                   have HO2 := Lib.hid X.1
                   have HB2 := Lib.hid X.2.1
                   have HK2 := Lib.hid X.2.2
                   clear X hown2 hgrow2 hat2 hlt2
                   have hcb2 := box_at (box_kept (box_kept HXx.out HB1.out) HB2.out)
                   have hfb2 := box_free (box_kept (box_kept HXx.out HB1.out) HB2.out)
                   have hnb2 := cell_more hcb2
                   have hnc2 := cell_more2 hcb2
                   have hsx2 : w.heap.size + 1 ≤ w2.heap.size := by omega
                   have hsy2 : w.heap.size < w2.heap.size := by omega)
                | (refine step_append_lies (o := ⟨some 66, _, _, _, _, _⟩) _ (by rfl) (.tmp 63) (.tmp 65) 120 (by rfl) (w.heap.size + 1) 119 j0 (.int .u64 0) 1 8 Tryz.underlying120 hj hy0 hy1 hy2 rfl (by omega) _ k _ (by rfl) ((HO2.out.step (by (repeat first | exact grown_refl _ _ | refine grown_alloc ?_ _ | refine grown_drew ?_))).at_ [⟨3, 1, .slice (some ⟨g1, 0, none⟩) (k + 1) cap1, k + 1, shOut c ws k ++ [.int .i64 q]⟩, ⟨3, 1, .slice (some ⟨g2, 0, none⟩) (k + 1) cap2, k + 1, shOrd k ++ [.int .i64 k]⟩] [] ⟨119, 1, x3, k, shRest c ws k⟩) ⟨_, 0, none⟩ 1 1 [.int .u64 r] (by rfl) (by rfl) (news_one (by (repeat first | (refine new_cell ?_; simp; done) | (refine HK2.out _ _ ?_ ?_ ?_ <;> first | omega | (simp; done) | (simp; omega) | (repeat first | (refine new_cell ?_; simp; done) | (refine HK1.out _ _ ?_ ?_ ?_ <;> first | omega | (simp; done) | (simp; omega) | (repeat first | (refine new_cell ?_; simp; done) | refine old_cell ?_ | refine drew_cell ?_)) | refine old_cell ?_ | refine drew_cell ?_)) | refine old_cell ?_ | refine drew_cell ?_))) (by simp [Value.oneCell']) (by omega) (by unfold maxLen; omega) (by omega) (by first | omega | (simp; omega)) _ rfl ?_
                   intro g3 cap3 w3 hown3 hgrow3 hat3 hlt3
                   have X := Owns.app (H := wx.heap.size) [⟨3, 1, .slice (some ⟨g1, 0, none⟩) (k + 1) cap1, k + 1, shOut c ws k ++ [.int .i64 q]⟩, ⟨3, 1, .slice (some ⟨g2, 0, none⟩) (k + 1) cap2, k + 1, shOrd k ++ [.int .i64 k]⟩] [] ⟨119, 1, x3, k, shRest c ws k⟩ HO2.out (by (repeat first | exact grown_refl _ _ | refine grown_alloc ?_ _ | refine grown_drew ?_)) (by first | omega | (simp; omega)) hown3 hgrow3 hat3 (fun g hg => ((HOx.out.own ⟨119, 1, x3, k, shRest c ws k⟩ (by simp)).lt g hg).2)
                   have hsz3 := X.2.1.size
                   have hsw3 := hgrow3.size
                   try rw [heap_drew] at hsw3
                   try simp only [World.size_alloc] at hsw3
                   have HO3 := Lib.hid X.1
                   have HB3 := Lib.hid X.2.1
                   have HK3 := Lib.hid X.2.2
                   clear X hown3 hgrow3 hat3 hlt3
                   have hcb3 := box_at (box_kept (box_kept (box_kept HXx.out HB1.out) HB2.out) HB3.out)
                   have hfb3 := box_free (box_kept (box_kept (box_kept HXx.out HB1.out) HB2.out) HB3.out)
                   have hnb3 := cell_more hcb3
                   have hnc3 := cell_more2 hcb3
                   have hsx3 : w.heap.size + 1 ≤ w3.heap.size := by omega
                   have hsy3 : w.heap.size < w3.heap.size := by omega))
            -- ARMS END
            all_goals
              go_wp2_with fail
              go_meet
              exact share_end hsx HO3.out HQK.out.1 HQK.out.2 HBx.out HB1.out HB2.out HB3.out HXx.out hsx3
          case rest =>
            obtain ⟨v3', hO', hX', hB', hs'⟩ := hcut
            have HO' := Lib.hid hO'
            have HX' := Lib.hid hX'
            have HB' := Lib.hid hB'
            have HS := Lib.hid (qSum_succ c ws k hkz)
            have hqk : q = qN c ws k := by unfold qN; rw [hqr.1, H1.out, ← HZ.out]; simp [hkz]
            have hle2 : qSum c ws (k + 1) ≤ c := Nat.le_trans (qSum_mono c ws (k + 1)) (qSum_le c ws (by rw [H1.out]; exact hs0))
            have hle3 : qSum c ws k + q ≤ c := by have := HS.out; omega
            have HQK := Lib.hid hqk
            have HLE := Lib.hid hle2
            clear hO' hX' hB' hqk hle2
            generalize qSum c ws k = qs at *
            go_wp2
            go_roundw
            case rel => exact ⟨k + 1, _, _, v3', by omega, rfl, rfl, by go_num, congrArg (Value.int .i64) (by have := HS.out; have := HQK.out; omega), HLE.out, HO'.out, HX'.out, HB'.out, hs'⟩
            case measure => simp [intOf]; omega
        · obtain rfl : k = n := by omega
          have O1 : wr.ownsRow (w.heap.size + 1) 3 1 x1 k (shOut c ws k) := (HO.out.own ⟨3, 1, x1, k, shOut c ws k⟩ (by simp [shOwn]))
          have O2 : wr.ownsRow (w.heap.size + 1) 3 1 x2 k (shOrd k) := (HO.out.own ⟨3, 1, x2, k, shOrd k⟩ (by simp [shOwn]))
          have O3 : wr.ownsRow (w.heap.size + 1) 119 1 x3 k (shRest c ws k) := (HO.out.own ⟨119, 1, x3, k, shRest c ws k⟩ (by simp [shOwn]))
          have ap := HO.out.apart
          obtain ⟨g1, cap1, rfl, hb1, hl1⟩ := O1.form hn0
          obtain ⟨g2, cap2, rfl, hb2, hl2⟩ := O2.form hn0
          obtain ⟨g3, cap3, rfl, hb3, hl3⟩ := O3.form hn0
          have hcap2 : k ≤ cap2 := by
            rcases O2.2 with ⟨h, _⟩ | ⟨g, cap, cur, hv, _, _, h, _⟩
            · cases h
            · simp at hv; omega
          simp [shOwn, Value.ownBlock] at ap
          obtain ⟨⟨a12, a13⟩, a23⟩ := ap
          have R1 := (RowG.of_own O1).congr (f' := outG false c ws 0) (fun j hj => by simp [shOut, outG, gotN_zero, hj])
          have R2 := (RowG.of_own O2).congr (f' := fun j => .int .i64 (j : Nat)) (fun j hj => by simp [shOrd, hj])
          have R3 := (RowG.of_own O3).congr (f' := fun j => .int .u64 (rN c ws j : Nat)) (fun j hj => by simp [shRest, hj])
          have HC := Lib.hid (share_sort c ws k wr g2 cap2 w.heap.size g3 cap3 _ HN.out hn0 (by omega) R2 hbox R3 (by omega) (by omega))
          have hlt2 := left_lt c ws (by rw [H1.out]; exact hs0) (by intro h; rw [h] at HN; have := HN.out; simp at this; omega)
          have hql : qSum c ws k = qSum c ws ws.length := by rw [HN.out]
          have HL : Hid (leftN c ws = c - qSum c ws ws.length) := Lib.hid rfl
          generalize leftN c ws = L at *
          have hsum : ((c : Int) - ((qSum c ws k : Nat) : Int)) = L := by have := HL.out; rw [hql] at hle ⊢; omega
          rw [hsum]
          have hL : L < k := by have := HN.out; omega
          have hR1 := Lib.hid R1
          have HBW := Lib.hid hB
          clear O1 O2 O3 R1 R2 R3 hbox hB hql hsum hlt2 hle HO
          go_wp2_with fail
          with_reducible refine HC.out.mono ?_
          rintro e w5 ⟨rfl, R5, G5⟩
          have Q5 := Lib.hid (hR1.out.grown G5 (by simp; omega))
          have B5 := Lib.hid (HBW.out.grown G5 (by omega) (by simp; omega))
          have HR5 := Lib.hid R5
          clear HC G5 R5 hR1 HBW
          go_wp2_with fail
          go_loopw [79] (fun i wr => ∃ m : Nat, m ≤ L ∧ i = .int .i64 m ∧ RowG wr g1 k (outG false c ws m) ∧ RowG wr g2 k (fun j => .int .i64 (nextN false c ws j : Nat)) ∧ Below w.heap.size w wr) (fun i _ => L - (intOf i).toNat)
          case atStart => exact ⟨0, Nat.zero_le _, rfl, Q5.out, HR5.out, B5.out⟩
          case round =>
            clear Q5 B5 HR5
            obtain ⟨m, hm, rfl, O, G, B⟩ := hrel
            by_cases hml : m < L
            · have hmk : m < ws.length := by have := HN.out; omega
              have hnl := nextN_lt false c ws m hmk
              have hnl' : nextN false c ws m < k := by have := HN.out; omega
              have c0 := G.cell m (by omega)
              have c1 := O.cell _ hnl'
              have f1 := O.free _ hnl'
              have hgn := gotN_next false c ws m hmk
              have hqn := qN_le c ws (nextN false c ws m) hnl (by rw [H1.out]; exact hs0)
              have S1 := Lib.hid (fun i => gotN_succ false c ws m i hmk)
              have HO := Lib.hid O
              have HG := Lib.hid G
              have HBB := Lib.hid B
              clear O G B
              simp only [outG, hgn] at c1
              clear hgn
              generalize nextN false c ws m = nx at *
              generalize hqq : qN c ws nx = qx at *
              have HQX := Lib.hid hqq
              clear hqq
              simp only [Bool.false_eq_true, if_false, Nat.add_zero] at c1
              go_wp2
              go_roundw
              case rel => exact ⟨m + 1, by omega, by go_num, (HO.out.set nx hnl' _).congr (fun i _ => outG_succ false c ws m i nx qx HQX.out (S1.out i)), HG.out.far (by show g2 ≠ g1; omega) _, HBB.out.setCell (by show w.heap.size ≤ g1; omega) _⟩
              case measure => simp [intOf]; omega
            · obtain rfl : m = L := by omega
              have HO := Lib.hid O
              have HBB := Lib.hid B
              clear O G B
              go_wp2
              go_ret
              refine ⟨g1, cap1, rfl, HO.out.ints (by rw [dealL_length, HN.out]) (fun j hj => ?_), HBB.out⟩
              have e : leftN c ws = m := HL.out.symm
              simp [dealL, outG, e]
end Go.Proofs.YtdefjnefkdemiaaGreatDoor
