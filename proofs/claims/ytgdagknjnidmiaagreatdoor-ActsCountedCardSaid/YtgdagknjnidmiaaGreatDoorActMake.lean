/- (*Stream).Acts (printed by gen_actmake.py). -/
import Derived.Test.YtgdagknjnidmiaaGreatDoorRwO
import Derived.Test.YtgdagknjnidmiaaGreatDoorM1
import Derived.Test.YtgdagknjnidmiaaGreatDoorMask
import Derived.Test.YtgdagknjnidmiaaGreatDoorCount
import Derived.Deep.RegionWith
import Derived.Deep.Cut
import Derived.Deep.DeepCutAuto
set_option linter.unusedVariables false
namespace Go.Proofs.YtgdagknjnidmiaaGreatDoor
open Go.RowKit

theorem infoAct : (Tryz.prog.info? 65).map (fun i => (i.zero, i.size, i.bytes)) = some (some (.agg #[.string ⟨#[]⟩, .int .i64 0, .int .i64 0]), 3, 32) := by kernel_rfl
/-- an act being made: its box, and the list that was made before -/
def AcW (w : World) (S : SC) (b0 q : Nat) (x : Ac) (v : Value) (l : List Ac) (K : Nat) (wr : World) : Prop :=
  wr.ownsRow b0 65 3 v l.length (l.flatMap Ac.cells) ∧ OB wr q x.cells 65 ∧ Strm wr S K ∧ w.grownBy wr (some S.g) ∧ b0 ≤ wr.heap.size ∧ S.g < q ∧ S.g < b0 ∧ w.heap.size ≤ q ∧ ∀ g, v.ownBlock = some g → g < q
section
variable {w wr w' : World} {S : SC} {b0 q K K' : Nat} {x x' : Ac} {v : Value} {l : List Ac}
theorem AcW.new (h : LstR w b0 wr S K 65 3 Ac.cells v l) (hS : S.g < b0) (x : Ac) : AcW w S b0 wr.heap.size x v l K (wr.alloc (.cells x.cells.toArray 65)) := by
  obtain ⟨own, s, g, hb⟩ := h
  exact ⟨own.alloc _, OB.new _ _ _, strm_alloc s _, grown_alloc g _, by rw [World.size_alloc]; omega, strm_lt s, hS, g.size, fun b hb => (own.lt b hb).2⟩
theorem AcW.draw (h : AcW w S b0 q x v l K wr) (k : wr.grownBy w' (some S.g)) (s : Strm w' S K') : AcW w S b0 q x v l K' w' := by
  obtain ⟨own, ob, s0, g, hb, h1, h2, h3, h4⟩ := h
  exact ⟨rowW_grown own k (fun b hb e => by have := (own.lt b hb).1; have := Option.some.inj e; omega), ob.grown k (fun e => by have := Option.some.inj e; omega), s, grown_trans g k, Nat.le_trans hb k.size, h1, h2, h3, h4⟩
theorem AcW.strm (h : AcW w S b0 q x v l K wr) : Strm wr S K := h.2.2.1
theorem AcW.alloc (h : AcW w S b0 q x v l K wr) (o : Obj) : AcW w S b0 q x v l K (wr.alloc o) := h.draw (World.grownBy_alloc _ _ _) (strm_alloc h.strm _)
theorem AcW.mono (h : AcW w S b0 q x v l K wr) (hK : K ≤ K') : AcW w S b0 q x v l K' wr := h.draw (grownW_same _ _) (strm_mono h.strm hK)
theorem AcW.box (h : AcW w S b0 q x v l K wr) : OB wr q x.cells 65 := h.2.1
theorem AcW.put (h : AcW w S b0 q x v l K wr) (i : Nat) (u : Value) (hc : x'.cells = x.cells.set i u) : AcW w S b0 q x' v l K (wr.setCell ⟨q, i, none⟩ u) := by
  obtain ⟨own, ob, s0, g, hb, h1, h2, h3, h4⟩ := h
  refine ⟨rowW_grown own (grown_set (grownW_same wr (some q)) (p := ⟨q, i, none⟩) (.inl rfl) u) (fun b hb e => by have := h4 b hb; have := Option.some.inj e; omega), ob.put i u hc, strm_set s0 (by show S.g < q; omega) u, grown_set g (.inr (by show w.heap.size ≤ q; omega)) u, ?_, h1, h2, h3, h4⟩
  simpa [World.setCell] using hb
theorem AcW.lst (h : AcW w S b0 q x v l K wr) : LstR w b0 wr S K 65 3 Ac.cells v l := ⟨h.1, h.2.2.1, h.2.2.2.1, h.2.2.2.2.1⟩
theorem AcW.lo (h : AcW w S b0 q x v l K wr) : S.g < q ∧ q < wr.heap.size := ⟨h.2.2.2.2.2.1, h.2.1.lt⟩
/-- what the region that stores the letter's id and moment keeps -/
structure JA (w : World) (S : SC) (b0 q : Nat) (x0 x1 : Ac) (v : Value) (l : List Ac) (q7 : Nat) (xc : List Value) (id : ByteArray) (at0 : Int) (K0 : Nat) (b : Msk) (u : Nat → Value) (wr : World) : Prop where
  base : AcW w S b0 q (if b 9 = true then x1 else x0) v l (K0 + (b 6).toNat) wr
  xb : XB wr q7 xc
  p1 : b 1 = true → u 36 = .string id
  p3 : b 3 = true → u 38 = .int .i64 at0
  p5 : b 5 = true → ∃ h, u 40 = .slice (some ⟨h, 0, none⟩) 4 4 ∧ h ≠ S.g ∧ h ≠ q ∧ wr.heap[h]? = some (.cells (([0, 1, 50, 200] : List Int).map (Value.int .i64)).toArray 3 (0, 0))
  p6 : b 6 = true → u 41 = .int .i64 (intOf (u 41))
  p7 : b 7 = true → ∃ z, u 42 = .int .i64 (IntKind.i64.wrap z)
  p8 : b 8 = true → u 43 = .pointer (some ⟨q, 0, none⟩)
theorem keep5 {wr wr' : World} {row : Option Nat} {h : Nat} {o : Obj} (k : wr.grownBy wr' row) (hr : row ≠ some h) (h3 : wr.heap[h]? = some o) : wr'.heap[h]? = some o := by
  refine (k.block h ?_ (fun e => hr e.symm)).trans h3
  rcases Nat.lt_or_ge h wr.heap.size with h' | h'
  · exact h'
  · rw [Array.getElem?_eq_none h'] at h3; cases h3
end
theorem wrap_bd (z : Int) : -9223372036854775808 ≤ IntKind.i64.wrap z ∧ IntKind.i64.wrap z ≤ 9223372036854775807 := by rw [IntKind.wrap_i64]; omega

set_option maxRecDepth 100000 in
set_option maxHeartbeats 16000000 in
theorem acts_any (S : SC) (K : Nat) (a : Option Addr) (l : List Snt) (n c : Nat) (w : World) (s0 : Strm w S K) (hK : K ≤ 10000) (hn : l.length = n) (hn1 : n ≤ 1000) (hI : RAt w a 4 Snt.cells l) (hok : ∀ x ∈ l, x.ok) (hag : ∀ p off, a = some ⟨p, off, none⟩ → p ≠ S.g) :
    Calls Tryz.prog 6 #[S.p, .slice a n c] w (GenR S (K + 120) w 3 Ac.cells fun l => l.length ≤ 10 ∧ ∀ x ∈ l, x.ok) := by
  obtain ⟨i0, hi, hz0, hz1, hz2⟩ := info_parts infoAct
  have HN := Lib.hid hn
  have HI := Lib.hid hI
  have HSO := Lib.hid hok
  have HAG := Lib.hid hag
  clear hn hI hok hag
  go_enter Tryz.func6, Tryz.ntmps6
  go_wp2_with fail
  with_reducible refine (next_any S _ _ _ s0 (by omega) (by omega)).mono ?_
  rintro e w1 ⟨m', ⟨hm0, hmx, -⟩, rfl, k1, s1⟩
  have hmx2 := hmx (by omega)
  obtain ⟨m, rfl⟩ := Int.eq_ofNat_of_zero_le hm0
  have hS1 := strm_lt s1
  have hw1 := k1.size
  have L1 : LstR w w1.heap.size w1 S (K + 1) 65 3 Ac.cells (.slice none 0 0) [] := ⟨World.ownsRow_nil _ _ _ _, s1, k1, Nat.le_refl _⟩
  clear k1 s1 hm0 hmx s0
  go_wp2_with fail
  go_loopw [5, 6, 7, 10] (fun v _ _ i wr => ∃ (k : Nat) (l : List Ac), k ≤ m ∧ i = .int .i64 k ∧ l.length = k ∧ (∀ x ∈ l, x.ok) ∧ LstR w w1.heap.size wr S (K + 1 + 11 * k) 65 3 Ac.cells v l) (fun _ _ _ i _ => m - (intOf i).toNat)
  case atStart => exact ⟨0, [], Nat.zero_le _, rfl, rfl, by simp, L1⟩
  case round =>
    obtain ⟨k, la, hk, rfl, hl, hoka, hL⟩ := hrel
    have HL := Lib.hid hL
    have HOK := Lib.hid hoka
    have hll := Lib.hid hl
    have s2 := hL.2.1
    clear hL L1 hoka hl
    by_cases hlt : k < m
    · --@r1
      have hkm : k ≤ 10 := by omega
      go_wp2_with fail
      with_reducible refine (key_at S _ [⟨#[115, 97]⟩, ⟨#[115, 98]⟩] 2 _ _ _ _ s2 (by omega) rfl (by omega) (by omega) (by simp) (by simp)).mono ?_
      rintro e w3 ⟨id0, hpe, rfl, k3, s3⟩
      have hid0 : id0.size ≤ 100 := by
        rcases hpe with h | h <;> simp only [List.mem_cons, List.mem_nil_iff, or_false] at h
        · rcases h with rfl | rfl <;> decide
        · rcases h with rfl | rfl | rfl <;> decide
      have HL3 := Lib.hid (HL.out.draw k3 s3 hS1)
      clear HL k3 s2 hpe
      go_wp2_with fail
      with_reducible refine (range_any S _ 1 4 _ s3 (by omega) (by omega) (by omega) (by omega)).mono ?_
      rintro e w4 ⟨kd, ⟨hkd0, hkd1⟩, rfl, k4, s4⟩
      have HL4 := Lib.hid (HL3.out.draw k4 s4 hS1)
      clear HL3 k4 s3
      go_wp2_with fail
      with_reducible refine (next_any S _ _ _ s4 (by omega) (by omega)).mono ?_
      rintro e w5 ⟨at0, ⟨ha0, ha1, -⟩, rfl, k5, s5⟩
      have ha2 := ha1 (by omega)
      have HL5 := Lib.hid (HL4.out.draw k5 s5 hS1)
      clear HL4 k5 s4 s5 ha1
      have HA := Lib.hid (AcW.new HL5.out hS1 ⟨id0, kd, at0⟩)
      have HX0 : Hid (Ac.ok ⟨id0, kd, at0⟩) := Lib.hid ⟨hid0, by simp only; omega, by simp only; omega, by simp only; omega, by simp only; omega⟩
      rw [show (Ac.cells ⟨id0, kd, at0⟩).toArray = #[.string id0, .int .i64 kd, .int .i64 at0] from rfl] at HA
      obtain ⟨q, hq⟩ : ∃ z, w5.heap.size = z := ⟨_, rfl⟩
      rw [hq] at HA
      clear HL5
      go_upto_region 5 with (fail)
      generalize w5.alloc (.cells #[.string id0, .int .i64 kd, .int .i64 at0] 65) = w6 at *
      try rw [hq]
      clear hq
      obtain ⟨K2, hK2⟩ : ∃ z, K + 1 + 11 * k + 2 + 1 + 1 = z := ⟨_, rfl⟩
      rw [hK2] at HA
      have s6 := HA.out.strm
      go_cut [27] (fun u wx => ∃ b : Bool, u = .bool b ∧ (b = true → 0 < n) ∧ AcW w S w1.heap.size q ⟨id0, kd, at0⟩ u5 la (K2 + 1) wx)
      case first =>
        by_cases h0 : n = 0
        · subst h0
          go_wp2_with fail
          go_meet
          exact ⟨false, rfl, fun h => by (cases h), HA.out.mono (by omega)⟩
        · have h1 : (0 : Int) < (n : Int) := by omega
          go_wp2_with fail
          with_reducible refine (flip_any S _ _ _ s6 (by omega) (by omega)).mono ?_
          rintro e w7 ⟨b, rfl, k7, s7⟩
          have HA7 := Lib.hid (HA.out.draw k7 s7)
          go_wp2_with fail
          go_meet
          exact ⟨!b, rfl, fun _ => by omega, HA7.out⟩
      case rest =>
      obtain ⟨b, rfl, hb0, hA⟩ := hcut
      have HA7 := Lib.hid hA
      clear hA HA s6
      go_upto_if 27 with (fail)
      go_cut [7] (fun _ wx => ∃ x : Ac, Hid x.ok ∧ AcW w S w1.heap.size q x u5 la (K2 + 3) wx)
      case first =>
        --@r2
        cases b with
        | false =>
          go_wp2_with fail
          go_meet
          exact ⟨_, HX0, HA7.out.mono (by omega)⟩
        | true =>
          have hn0 : 0 < n := hb0 rfl
          have s7 := HA7.out.strm
          go_wp2_with fail
          with_reducible refine (next_any S _ _ _ s7 (by omega) (by omega)).mono ?_
          rintro e w8 ⟨r, ⟨hr0, hr1, -⟩, rfl, k8, s8⟩
          have hr2 := hr1 (by omega)
          obtain ⟨j, rfl⟩ := Int.eq_ofNat_of_zero_le hr0
          have hj : j < n := by omega
          have hjl : j < l.length := by have := HN.out; omega
          have HA8 := Lib.hid (HA7.out.draw k8 s8)
          clear hr0 hr1 hr2 k8 s8 s7 HA7
          have G8 := HA8.out.2.2.2.1
          have hRI : RAt w8 a 4 Snt.cells l := HI.out.grown G8 HAG.out
          obtain ⟨p, off, rfl, hp, c0, c1, c2, c3⟩ := hRI.at4 hjl (v0 := .string l[j].id) (v1 := .string l[j].person) (v2 := .string l[j].letter) (v3 := .int .i64 l[j].at_) rfl
          obtain ⟨ok1, ok2, ok3, ok4, ok5⟩ := HSO.out l[j] (List.getElem_mem hjl)
          generalize l[j] = y at *
          obtain ⟨yid, yp, yl, yat⟩ := y
          simp only at c0 c1 c2 c3 ok1 ok4 ok5
          have HA9 := Lib.hid (HA8.out.alloc (.cells #[.string yid, .string yp, .string yl, .int .i64 yat] 62))
          have HX9 := Lib.hid (XB.new w8 [.string yid, .string yp, .string yl, .int .i64 yat] 62)
          simp only [List.toArray] at HX9
          have hq78 := HA8.out.lo
          clear HA8 hRI
          go_upto_region 7 with (fail)
          clear c0 c1 c2 c3
          generalize w8.alloc (.cells #[.string yid, .string yp, .string yl, .int .i64 yat] 62) = w9 at *
          have hq7 : w8.heap.size ≠ q := by omega
          have hq7g : w8.heap.size ≠ S.g := by omega
          generalize w8.heap.size = q7 at *
          refine wp_region_any (by kernel_rfl) ?_
          change wpAny _ _ _ _ _ _ _ (World.drew _)
          have HAd : Hid (AcW w S w1.heap.size q ⟨id0, kd, at0⟩ u5 la (K2 + 2) w9.drew) := Lib.hid (HA9.out.draw (grown_drew (grownW_same w9 _)) (show Strm w9.drew S (K2 + 2) from HA9.out.strm))
          have HXd : Hid (XB w9.drew q7 [.string yid, .string yp, .string yl, .int .i64 yat]) := Lib.hid HX9.out
          clear HA9 HX9
          generalize w9.drew = wd at *
          refine wpAny_take (i := 0) (oi := ⟨some 35, _, _, _, _, _⟩) (v := .pointer (some ⟨q7, 0, none⟩)) rfl (by kernel_rfl) (by kernel_rfl) (by kernel_rfl) (fun _ _ _ h => h) (Or.inl ⟨by rfl, fun w => by go_simp⟩) ?_
          refine wpAny_take (i := 2) (oi := ⟨some 37, _, _, _, _, _⟩) (v := .pointer (some ⟨q7, 3, none⟩)) rfl (by kernel_rfl) (by kernel_rfl) (by kernel_rfl) (fun _ _ _ h => h) (Or.inl ⟨by rfl, fun w => by go_simp⟩) ?_
          refine wpAny_take (i := 4) (oi := ⟨some 39, _, _, _, _, _⟩) (v := S.p) rfl (by kernel_rfl) (by kernel_rfl) (by kernel_rfl) (fun _ _ _ h => h) (Or.inl ⟨by rfl, fun w => by go_simp⟩) ?_
          refine wpAny_mask (n := 2) (m := 9) #[true, false, true, false, true, false, false, false, false, false, false, false] [1, 3, 5, 6, 7, 8, 9] (fun i => if i = 6 then [5] else if i = 7 then [3, 6] else if i = 9 then [1, 8] else []) [36, 38, 40, 41, 42, 43] (fun d => if d = 36 then u36 else if d = 38 then u38 else if d = 40 then u40 else if d = 41 then u41 else if d = 42 then u42 else u43) (JA w S w1.heap.size q ⟨id0, kd, at0⟩ ⟨yid, kd, at0⟩ u5 la q7 [.string yid, .string yp, .string yl, .int .i64 yat] yid yat (K2 + 2)) rfl (by decide) (by kernel_rfl) (by kernel_rfl) ?stp ?hsp ?hendp
          case stp => exact ⟨HAd.out, HXd.out, fun e => (by cases e), fun e => (by cases e), fun e => (by cases e), fun e => (by cases e), fun e => (by cases e), fun e => (by cases e)⟩
          case hsp =>
            --@h1
            intro i hi b u wx hbi hD hJ
            simp only [List.mem_cons, List.mem_nil_iff, or_false] at hi
            have HJ := Lib.hid hJ
            rcases hi with rfl | rfl | rfl | rfl | rfl | rfl | rfl
            · refine wpOp_calm (o := ⟨some 36, ?ap1, ?ap2, ?ap3, ?ap4, ?ap5⟩) ?api ?apg ?_
              case api => exact rfl
              case apg => exact rfl
              intro K' Q' hK'
              have HK := Lib.hid hK'
              clear hK'
              have y1 := HJ.out.xb.2 0 _ rfl
              have yl1 := HJ.out.xb.1
              clear hJ
              simp only [setAll, List.foldl]
              go_simp
              exact HK.out _ _ ⟨upd u 36 (.string yid), by kernel_rfl, ⟨HJ.out.base, HJ.out.xb, fun _ => rfl, fun e => HJ.out.p3 e, fun e => HJ.out.p5 e, fun e => HJ.out.p6 e, fun e => HJ.out.p7 e, fun e => HJ.out.p8 e⟩⟩
            · refine wpOp_calm (o := ⟨some 38, ?bp1, ?bp2, ?bp3, ?bp4, ?bp5⟩) ?bpi ?bpg ?_
              case bpi => exact rfl
              case bpg => exact rfl
              intro K' Q' hK'
              have HK := Lib.hid hK'
              clear hK'
              have y1 := HJ.out.xb.2 3 _ rfl
              have yl1 := HJ.out.xb.1
              clear hJ
              simp only [setAll, List.foldl]
              go_simp
              exact HK.out _ _ ⟨upd u 38 (.int .i64 yat), by kernel_rfl, ⟨HJ.out.base, HJ.out.xb, fun e => HJ.out.p1 e, fun _ => rfl, fun e => HJ.out.p5 e, fun e => HJ.out.p6 e, fun e => HJ.out.p7 e, fun e => HJ.out.p8 e⟩⟩
            · refine wpOp_calm (o := ⟨some 40, ?cp1, ?cp2, ?cp3, ?cp4, ?cp5⟩) ?cpi ?cpg ?_
              case cpi => exact rfl
              case cpg => exact rfl
              intro K' Q' hK'
              have HK := Lib.hid hK'
              clear hK'
              have hlo := HJ.out.base.lo
              clear hJ
              simp only [setAll, List.foldl]
              go_simp
              exact HK.out _ _ ⟨upd u 40 (.slice (some ⟨wx.heap.size, 0, none⟩) 4 4), by kernel_rfl, ⟨HJ.out.base.alloc _, HJ.out.xb.alloc _, fun e => HJ.out.p1 e, fun e => HJ.out.p3 e, fun _ => ⟨_, rfl, by omega, by omega, heap_alloc_new _ _⟩, fun e => HJ.out.p6 e, fun e => HJ.out.p7 e, fun e => HJ.out.p8 e⟩⟩
            · refine wpOp_calm (o := ⟨some 41, ?dp1, ?dp2, ?dp3, ?dp4, ?dp5⟩) ?dpi ?dpg ?_
              case dpi => exact rfl
              case dpg => exact rfl
              intro K' Q' hK'
              have HK := Lib.hid hK'
              clear hK'
              obtain ⟨h, hv, hne, hneq, hb5⟩ := HJ.out.p5 (hD 5 (by simp))
              have C := pick_any S (K2 + 2) h [0, 1, 50, 200] 4 4 wx (strm_mono HJ.out.base.strm (by rw [hbi]; exact Nat.le_refl _)) (by omega) rfl (by omega) (by omega) hb5 hne
              rw [← hv] at C
              have HC := Lib.hid C
              clear hv hb5 C
              clear hJ
              simp only [setAll, List.foldl]
              go_simp
              refine HC.out.mono ?_
              rintro e w' ⟨z, hz, rfl, k', st⟩
              exact HK.out _ _ ⟨upd u 41 (.int .i64 z), by kernel_rfl, ⟨HJ.out.base.draw k' st, HJ.out.xb.grown k' (fun e => hq7g (Option.some.inj e).symm), fun e => HJ.out.p1 e, fun e => HJ.out.p3 e, fun e => by
                obtain ⟨h, h1, h2, h3, h4⟩ := HJ.out.p5 e
                exact ⟨h, h1, h2, h3, keep5 k' (fun e => h2 (Option.some.inj e).symm) h4⟩, fun _ => rfl, fun e => HJ.out.p7 e, fun e => HJ.out.p8 e⟩⟩
            · refine wpOp_calm (o := ⟨some 42, ?ep1, ?ep2, ?ep3, ?ep4, ?ep5⟩) ?epi ?epg ?_
              case epi => exact rfl
              case epg => exact rfl
              intro K' Q' hK'
              have HK := Lib.hid hK'
              clear hK'
              have hd6 : b 6 = true := hD 6 (show (6 : Nat) ∈ [3, 6] from List.mem_cons_of_mem _ List.mem_cons_self)
              have hd3 : b 3 = true := hD 3 (show (3 : Nat) ∈ [3, 6] from List.mem_cons_self)
              have hz := HJ.out.p6 hd6
              generalize intOf (u 41) = z at hz
              have h3 := HJ.out.p3 hd3
              clear hJ
              simp only [setAll, List.foldl, hz, h3]
              go_simp
              exact HK.out _ _ ⟨upd (upd (upd u 38 (.int .i64 yat)) 41 (.int .i64 z)) 42 (.int .i64 (IntKind.i64.wrap (yat + z))), by kernel_rfl, by
                rw [upd_same h3, upd_same hz]
                exact ⟨HJ.out.base, HJ.out.xb, fun e => HJ.out.p1 e, fun e => HJ.out.p3 e, fun e => HJ.out.p5 e, fun e => HJ.out.p6 e, fun _ => ⟨_, rfl⟩, fun e => HJ.out.p8 e⟩⟩
            · refine wpOp_calm (o := ⟨some 43, ?fp1, ?fp2, ?fp3, ?fp4, ?fp5⟩) ?fpi ?fpg ?_
              case fpi => exact rfl
              case fpg => exact rfl
              intro K' Q' hK'
              have HK := Lib.hid hK'
              clear hK'
              clear hJ
              simp only [setAll, List.foldl]
              go_simp
              exact HK.out _ _ ⟨upd u 43 (.pointer (some ⟨q, 0, none⟩)), by kernel_rfl, ⟨HJ.out.base, HJ.out.xb, fun e => HJ.out.p1 e, fun e => HJ.out.p3 e, fun e => HJ.out.p5 e, fun e => HJ.out.p6 e, fun e => HJ.out.p7 e, fun _ => rfl⟩⟩
            · refine wpOp_calm (o := ⟨none, ?gp1, ?gp2, ?gp3, ?gp4, ?gp5⟩) ?gpi ?gpg ?_
              case gpi => exact rfl
              case gpg => exact rfl
              intro K' Q' hK'
              have HK := Lib.hid hK'
              clear hK'
              have h1 := HJ.out.p1 (hD 1 (by simp))
              have h8 := HJ.out.p8 (hD 8 (by simp))
              have hbase := HJ.out.base
              rw [hbi, if_neg (by simp)] at hbase
              have c0 := hbase.box.cell 0 _ rfl
              have f0 := hbase.box.free 0
              have hl0 := hbase.box.lt
              have HBS := Lib.hid (hbase.put (x' := ⟨yid, kd, at0⟩) 0 (.string yid) rfl)
              clear hbase hJ
              simp only [setAll, List.foldl, h1, h8]
              go_simp
              refine HK.out _ _ ⟨u, by rw [← h1, ← h8]; kernel_rfl, ⟨?_, HJ.out.xb.grown (cs := _) (row := some q) (grown_set (grownW_same wx (some q)) (p := ⟨q, 0, none⟩) (.inl rfl) _) (fun e => hq7 (Option.some.inj e).symm), fun e => HJ.out.p1 e, fun e => HJ.out.p3 e, fun e => by
                obtain ⟨h, h1, h2, h3, h4⟩ := HJ.out.p5 e
                exact ⟨h, h1, h2, h3, keep5 (grown_set (grownW_same wx (some q)) (p := ⟨q, 0, none⟩) (.inl rfl) _) (fun e => h3 (Option.some.inj e).symm) h4⟩, fun e => HJ.out.p6 e, fun e => HJ.out.p7 e, fun e => HJ.out.p8 e⟩⟩
              exact HBS.out
            --@end
          case hendp =>
            --@h2
            intro b u wx hb hJ
            have h9 := hJ.base
            rw [hb 9 (by simp), if_pos rfl] at h9
            have HB := Lib.hid (h9.mono (show (K2 + 2) + (b 6).toNat ≤ K2 + 3 by have := Bool.toNat_le (b 6); omega))
            obtain ⟨z, hz⟩ := hJ.p7 (hb 7 (by simp))
            obtain ⟨u36', hu36⟩ : ∃ z, u 36 = z := ⟨_, rfl⟩
            obtain ⟨u38', hu38⟩ : ∃ z, u 38 = z := ⟨_, rfl⟩
            obtain ⟨u40', hu40⟩ : ∃ z, u 40 = z := ⟨_, rfl⟩
            obtain ⟨u41', hu41⟩ : ∃ z, u 41 = z := ⟨_, rfl⟩
            obtain ⟨u43', hu43⟩ : ∃ z, u 43 = z := ⟨_, rfl⟩
            have hwb := wrap_bd z
            simp only [setAll, List.foldl, hz, hu36, hu38, hu40, hu41, hu43]
            clear hb hJ h9 HAd HXd hu36 hu38 hu40 hu41 hu43 hz
            generalize IntKind.i64.wrap z = z9 at *
            refine wpAny_take (i := 10) (oi := ⟨some 44, _, _, _, _, _⟩) (v := .pointer (some ⟨q, 2, none⟩)) rfl (by kernel_rfl) (by kernel_rfl) (by kernel_rfl) (fun _ _ _ h => h) (Or.inl ⟨by rfl, fun w => by go_simp⟩) ?_
            refine wpAny_ready (rs := [11]) (by kernel_rfl) (by simp) ?_
            have c2 := HB.out.box.cell 2 _ rfl
            have f2 := HB.out.box.free 2
            have hl2 := HB.out.box.lt
            have HC := Lib.hid (HB.out.put (x' := ⟨yid, kd, z9⟩) 2 (.int .i64 z9) rfl)
            refine AllReady.cons rfl (fun K8 hK8 => ?_) AllReady.nil
            go_simp
            refine hK8 _ _ ?_
            clear hK8 K8
            refine wpAny_done (by kernel_rfl) ?_ _
            clear c2 f2 hl2 HB
            go_wp2_with fail
            go_meet
            exact ⟨⟨yid, kd, z9⟩, Lib.hid ⟨ok1, by simp only; omega, by simp only; omega, hwb.1, hwb.2⟩, HC.out⟩
            --@end
        --@end
      case rest =>
      clear HA7 HX0 hb0
      obtain ⟨xa, HXOa, hA⟩ := hcut
      have HAa := Lib.hid hA
      clear hA
      have sa := HAa.out.strm
      go_wp2_with fail
      with_reducible refine (flip_any S _ _ _ sa (by omega) (by omega)).mono ?_
      rintro e wf ⟨bf, rfl, kf, sf⟩
      have HAf := Lib.hid (HAa.out.draw kf sf)
      clear kf sf sa HAa
      go_upto_if 46 with (fail)
      go_cut [] (fun wx => ∃ x : Ac, Hid x.ok ∧ AcW w S w1.heap.size q x u5 la (K2 + 5) wx)
      case first =>
        cases bf with
        | false =>
          go_wp2_with fail
          go_meet
          exact ⟨xa, HXOa, HAf.out.mono (by omega)⟩
        | true =>
          have sg := HAf.out.strm
          go_wp2_with fail
          with_reducible refine (pick_at S _ [0, 5] 2 _ _ _ _ sg (by omega) rfl (by omega) (by omega) (by simp) (by simp)).mono ?_
          rintro e wg ⟨z, hz, rfl, kg, sg'⟩
          have hz' : z = 0 ∨ z = 5 := by
            simp only [List.mem_cons, List.mem_nil_iff, or_false] at hz
            omega
          have HAg := Lib.hid (HAf.out.draw kg sg')
          obtain ⟨o1, o2, o3, o4, o5⟩ := HXOa.out
          have c1 := HAg.out.box.cell 1 _ rfl
          have f1 := HAg.out.box.free 1
          have hl1 := HAg.out.box.lt
          have HAh := Lib.hid (HAg.out.put (x' := ⟨xa.sent, z, xa.at_⟩) 1 (.int .i64 z) rfl)
          clear HAf HAg kg sg' sg
          go_wp2_with fail
          go_meet
          exact ⟨⟨xa.sent, z, xa.at_⟩, Lib.hid ⟨o1, by simp only; omega, by simp only; omega, o4, o5⟩, HAh.out⟩
      case rest =>
      obtain ⟨xb, HXOb, hA⟩ := hcut
      have HAb := Lib.hid hA
      clear hA
      have sb := HAb.out.strm
      go_wp2_with fail
      with_reducible refine (flip_any S _ _ _ sb (by omega) (by omega)).mono ?_
      rintro e wf ⟨bf, rfl, kf, sf⟩
      have HAf := Lib.hid (HAb.out.draw kf sf)
      clear kf sf sb HAb
      go_upto_if 52 with (fail)
      go_cut [] (fun wx => ∃ x : Ac, Hid x.ok ∧ AcW w S w1.heap.size q x u5 la (K2 + 7) wx)
      case first =>
        cases bf with
        | false =>
          go_wp2_with fail
          go_meet
          exact ⟨xb, HXOb, HAf.out.mono (by omega)⟩
        | true =>
          have sg := HAf.out.strm
          go_wp2_with fail
          with_reducible refine (pick_at S _ [-1, 4321440] 2 _ _ _ _ sg (by omega) rfl (by omega) (by omega) (by simp) (by simp)).mono ?_
          rintro e wg ⟨z, hz, rfl, kg, sg'⟩
          have hz' : z = -1 ∨ z = 4321440 := by
            simp only [List.mem_cons, List.mem_nil_iff, or_false] at hz
            omega
          have HAg := Lib.hid (HAf.out.draw kg sg')
          obtain ⟨o1, o2, o3, o4, o5⟩ := HXOb.out
          have c1 := HAg.out.box.cell 2 _ rfl
          have f1 := HAg.out.box.free 2
          have hl1 := HAg.out.box.lt
          have HAh := Lib.hid (HAg.out.put (x' := ⟨xb.sent, xb.kind, z⟩) 2 (.int .i64 z) rfl)
          clear HAf HAg kg sg' sg
          go_wp2_with fail
          go_meet
          exact ⟨⟨xb.sent, xb.kind, z⟩, Lib.hid ⟨o1, o2, o3, by simp only; omega, by simp only; omega⟩, HAh.out⟩
      case rest =>
      obtain ⟨x, HXO, hA⟩ := hcut
      have HA := Lib.hid hA
      clear hA
      have c0 := HA.out.box.cell 0 _ rfl
      have c1 := HA.out.box.cell 1 _ rfl
      have c2 := HA.out.box.cell 2 _ rfl
      have hl1 := HA.out.box.lt
      have HL9 := Lib.hid HA.out.lst
      have own9 := HL9.out.1
      have hw9 := HL9.out.2.2.2
      have hlb : la.length ≤ 10 := by have := hll.out; omega
      clear HA
      go_wp2_with (at_builtin; refine wpList_append_own _ rfl _ _ 28 rfl w1.heap.size 65 i0 _ 3 32 Tryz.underlying28 hi hz0 hz1 hz2 rfl (by decide) _ _ _ rfl (own9.alloc _) ⟨wc.heap.size, 0, none⟩ 1 1 [.string x.sent, .int .i64 x.kind, .int .i64 x.at_] rfl rfl ?c1 ?c2 ?c3 ?c4 ?c5 ?_)
      case c1 => exact cells_new wc #[.string x.sent, .int .i64 x.kind, .int .i64 x.at_] 65
      case c2 => simp [Value.oneCell']
      case c3 => unfold maxLen; omega
      case c4 => omega
      case c5 => simp; omega
      intro v2 wy owny hgrowy hney
      have HLy := Lib.hid (HL9.out.snoc (x := x) hS1 hw1 owny hgrowy)
      clear hney owny hgrowy HL9 own9 c0 c1 c2 hl1
      go_wp2_with fail
      go_roundw
      case rel => exact ⟨k + 1, la ++ [x], by omega, by go_num, by simp [hll.out], fun y hy => by
          rcases List.mem_append.1 hy with hy | hy
          · exact HOK.out y hy
          · obtain rfl := List.mem_singleton.1 hy
            exact HXO.out, by
          obtain ⟨q1, q2, q3, q4⟩ := HLy.out
          exact ⟨q1, strm_mono q2 (by omega), q3, q4⟩⟩
      case measure => simp [intOf]; omega
      --@end
    · obtain rfl : k = m := by omega
      have hkl := hll.out
      go_wp2_with fail
      go_ret
      exact HL.out.gen (K' := K + 120) (P := fun l => l.length ≤ 10 ∧ ∀ x ∈ l, x.ok) hS1 (by omega) (fun x _ => x.len) ⟨by omega, HOK.out⟩
end Go.Proofs.YtgdagknjnidmiaaGreatDoor
