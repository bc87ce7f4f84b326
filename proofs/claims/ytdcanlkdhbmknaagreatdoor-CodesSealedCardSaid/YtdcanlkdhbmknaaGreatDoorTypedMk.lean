/- The maker Typed: a string of at most 1000 bytes. -/
import Derived.Test.YtdcanlkdhbmknaaGreatDoorRepl
import Derived.Test.YtdcanlkdhbmknaaGreatDoorCodeAsc
import Derived.Test.YtdcanlkdhbmknaaGreatDoorPickAt
import Derived.Test.YtdcanlkdhbmknaaGreatDoorFlip
import Derived.Tactics2
import Derived.Deep.RegionWith
import Derived.Deep.DeepCutAuto
set_option linter.unusedVariables false
namespace Go.Proofs.YtdcanlkdhbmknaaGreatDoor
open Go.RowKit

def rpL : List ByteArray := [⟨#[48]⟩, ⟨#[111]⟩, ⟨#[49]⟩, ⟨#[108]⟩, ⟨#[53]⟩, ⟨#[83]⟩, ⟨#[50]⟩, ⟨#[122]⟩]
theorem rp_at (w : World) : StrsAt (w.alloc (.cells #[.string ⟨#[48]⟩, .string ⟨#[111]⟩, .string ⟨#[49]⟩, .string ⟨#[108]⟩, .string ⟨#[53]⟩, .string ⟨#[83]⟩, .string ⟨#[50]⟩, .string ⟨#[122]⟩] 9)) (some ⟨w.heap.size, 0, none⟩) rpL := by
  intro j hj
  refine ⟨w.heap.size, 0, rfl, by simp, ?_⟩
  have hb := heap_alloc_new w (.cells #[.string ⟨#[48]⟩, .string ⟨#[111]⟩, .string ⟨#[49]⟩, .string ⟨#[108]⟩, .string ⟨#[53]⟩, .string ⟨#[83]⟩, .string ⟨#[50]⟩, .string ⟨#[122]⟩] 9)
  have h8 : j < 8 := hj
  simp only [World.cell?, hb]
  rcases j with _ | _ | _ | _ | _ | _ | _ | _ | j
  all_goals first | rfl | omega

theorem s_four {x : ByteArray} (h : x ∈ [(⟨#[32]⟩ : ByteArray), ⟨#[45]⟩, ⟨#[46]⟩, ⟨#[]⟩]) : x.size ≤ 1 := by
  simp only [List.mem_cons, List.mem_nil_iff, or_false] at h
  rcases h with rfl | rfl | rfl | rfl <;> decide
theorem no_over (q x : ByteArray) (m k : Nat) {n : Nat} (hq : q.size ≤ 500 + k) (hx : x.size ≤ 1) (hn : (n : Int) < 4) (hk : k < n) : ¬ (9223372036854775807 < (q.extract 0 m).size + x.size) := by
  have := ByteArray.size_extract (a := q) (b := 0) (e := m)
  omega
theorem no_over2 (q x : ByteArray) (m k : Nat) {n : Nat} (hq : q.size ≤ 500 + k) (hx : x.size ≤ 1) (hn : (n : Int) < 4) (hk : k < n) : ¬ (9223372036854775807 < (q.extract 0 m).size + x.size + (q.extract m q.size).size) := by
  have := ByteArray.size_extract (a := q) (b := 0) (e := m)
  have := ByteArray.size_extract (a := q) (b := m) (e := q.size)
  omega

set_option maxRecDepth 100000 in
set_option maxHeartbeats 4000000 in
/-- NewReplacer and Replace, one behind the other, are met in Typed -/
theorem typed_any2 (S : SC) (K : Nat) (w : World) (s0 : Strm w S K) (hK : K ≤ 8000) :
    Calls Tryz.prog 6 #[S.p] w (GenS S (K + 100) w fun r => r.size ≤ 1000) := by
  go_enter Tryz.func6, Tryz.ntmps6
  go_wp2_with fail
  with_reducible refine (code_asc S _ _ s0 (by omega)).mono ?_
  rintro e w1 ⟨c, ⟨hcs, hca⟩, rfl, k1, s1⟩
  have HG1 := Lib.hid k1
  have HCA := Lib.hid hca
  clear hca k1 s0
  go_wp2_with fail
  with_reducible refine (flip_any S _ _ _ s1 (by omega) (by omega)).mono ?_
  rintro e w2 ⟨f, rfl, k2, s2⟩
  have HG2 := Lib.hid (grown_trans HG1.out k2)
  clear k2 s1 HG1
  go_upto_if 8 with (fail)
  go_cut [3] (fun u wx => ∃ r : ByteArray, u = .string r ∧ r.size = c.size ∧ w2.grownBy wx (some S.g) ∧ Strm wx S (K + 70))
  case first =>
    cases f with
    | false =>
      go_wp2_with fail
      go_meet
      exact ⟨c, rfl, rfl, grown_same _ _, strm_mono s2 (by omega)⟩
    | true =>
      have CL := Lib.hid (fun w => Tryz.strings_ToLower_ascii c w (by omega) (fun j b hj => HCA.out b (List.mem_of_getElem? hj)))
      have HLS : Hid ((⟨(Lib.toLowerA c.data.toList).toArray⟩ : ByteArray).size = c.size) := Lib.hid (by
        show (Lib.toLowerA c.data.toList).toArray.size = _
        simp [Lib.toLowerA])
      generalize (⟨(Lib.toLowerA c.data.toList).toArray⟩ : ByteArray) = r at *
      go_wp2_with fail
      with_reducible refine (CL.out _).mono ?_
      rintro e w3 ⟨rfl, b3⟩
      go_wp2_with fail
      go_meet
      exact ⟨r, rfl, HLS.out, grown_of_below b3 _, strm_mono (strm_below s2 b3) (by omega)⟩
  case rest =>
  obtain ⟨r, rfl, hrs, k3, s3⟩ := hcut
  have HG3 := Lib.hid (grown_trans HG2.out k3)
  have hrb : r.size ≤ 500 := by omega
  clear k3 s2 HG2 HCA hrs hcs
  go_wp2_with fail
  with_reducible refine (flip_any S _ _ _ s3 (by omega) (by omega)).mono ?_
  rintro e w4 ⟨f2, rfl, k4, s4⟩
  have HG4 := Lib.hid (grown_trans HG3.out k4)
  clear k4 s3 HG3
  go_upto_if 12 with (fail)
  go_cut [3] (fun u wx => ∃ r2 : ByteArray, u = .string r2 ∧ r2.size = r.size ∧ w4.grownBy wx (some S.g) ∧ Strm wx S (K + 72))
  case first =>
    cases f2 with
    | false =>
      go_wp2_with fail
      go_meet
      exact ⟨r, rfl, rfl, grown_same _ _, strm_mono s4 (by omega)⟩
    | true =>
      have HRP := Lib.hid (rp_at w4)
      go_wp2_with fail
      with_reducible refine (NewReplacer_any w4.heap.size 8 rpL rfl _ HRP.out).mono ?_
      rintro e w5 ⟨p, g', c', hp, hgp, rfl, hob, hS, hb5⟩
      have hp4 : w4.heap.size ≤ p := by simp at hp; omega
      have HB5 := Lib.hid (((Below.refl w4.heap.size w4).alloc (Nat.le_refl _) (.cells #[.string ⟨#[48]⟩, .string ⟨#[111]⟩, .string ⟨#[49]⟩, .string ⟨#[108]⟩, .string ⟨#[53]⟩, .string ⟨#[83]⟩, .string ⟨#[50]⟩, .string ⟨#[122]⟩] 9)).trans (hb5.mono (by simp)))
      have CR := Lib.hid (Replace_any _ p g' c' rpL r rfl (by decide) (by omega) hgp w5 hob hS)
      have hz5 := HB5.out.size
      clear hp hb5 hob hS HRP hgp
      go_wp2_with fail
      with_reducible refine CR.out.mono ?_
      rintro e w6 ⟨r2, hr2, rfl, hch⟩
      have HB6 := Lib.hid (HB5.out.trans (hch.below hz5 (fun i hi => by rw [hi]; exact hp4)))
      clear hch CR
      go_wp2_with fail
      go_meet
      exact ⟨r2, rfl, hr2, grown_of_below HB6.out _, strm_mono (strm_below s4 HB6.out) (by omega)⟩
  case rest =>
  obtain ⟨r2, rfl, hr2, k5, s5⟩ := hcut
  have HG5 := Lib.hid (grown_trans HG4.out k5)
  have hrb2 : r2.size ≤ 500 := by omega
  clear k5 s4 HG4 hr2 hrb
  generalize wc = w5 at *
  go_wp2_with fail
  with_reducible refine (next_any S _ _ _ s5 (by omega) (by omega)).mono ?_
  rintro e w6 ⟨n, ⟨hn0, hn1, -⟩, rfl, k6, s6⟩
  have hn4 := hn1 (by omega)
  obtain ⟨n, rfl⟩ := Int.eq_ofNat_of_zero_le hn0
  have HG6 := Lib.hid (grown_trans HG5.out k6)
  clear k6 s5 HG5 hn1 hn0
  go_wp2_with fail
  go_loopw [3, 4, 19] (fun u _ i wr => ∃ (k : Nat) (q : ByteArray), k ≤ n ∧ i = .int .i64 k ∧ u = .string q ∧ q.size ≤ 500 + k ∧ w.grownBy wr (some S.g) ∧ Strm wr S (K + 73 + 2 * k)) (fun _ _ i _ => n - (intOf i).toNat)
  case atStart => exact ⟨0, r2, Nat.zero_le _, rfl, rfl, by omega, HG6.out, s6⟩
  case round =>
    obtain ⟨k, q, hk, rfl, rfl, hq, kr, sr⟩ := hrel
    have HGR := Lib.hid kr
    clear kr
    by_cases hlt : k < n
    · go_wp2_with fail
      with_reducible refine (next_any S _ _ _ sr (by omega) (by omega)).mono ?_
      rintro e w7 ⟨m, ⟨hm0, hm1, -⟩, rfl, k7, s7⟩
      have hmq := hm1 (by omega)
      obtain ⟨m, rfl⟩ := Int.eq_ofNat_of_zero_le hm0
      have HG7 := Lib.hid (grown_trans HGR.out k7)
      have hmq' : m ≤ q.size := by omega
      clear k7 sr HGR hm1 hm0 hmq
      go_wp2_with fail
      have HSA := Lib.hid (strm_alloc s7 (.cells #[.string ⟨#[32]⟩, .string ⟨#[45]⟩, .string ⟨#[46]⟩, .string ⟨#[]⟩] 9))
      have HBA := Lib.hid (heap_alloc_new w7 (.cells #[.string ⟨#[32]⟩, .string ⟨#[45]⟩, .string ⟨#[46]⟩, .string ⟨#[]⟩] 9))
      have HGA := Lib.hid (World.grownBy_alloc w7 (.cells #[.string ⟨#[32]⟩, .string ⟨#[45]⟩, .string ⟨#[46]⟩, .string ⟨#[]⟩] 9) (some S.g))
      have hne : w7.heap.size ≠ S.g := by have := strm_lt s7; omega
      have hK1 : K + 73 + 2 * k + 1 ≤ 1099511627776 := by omega
      have CO := Lib.hid (one_any S (K + 73 + 2 * k + 1) w7.heap.size [⟨#[32]⟩, ⟨#[45]⟩, ⟨#[46]⟩, ⟨#[]⟩] 4 4 ((w7.alloc (.cells #[.string ⟨#[32]⟩, .string ⟨#[45]⟩, .string ⟨#[46]⟩, .string ⟨#[]⟩] 9)).drew) HSA.out hK1 rfl (by decide) (by decide) HBA.out hne)
      clear HSA HBA
      have HGA' : Hid (w7.grownBy (w7.alloc (.cells #[.string ⟨#[32]⟩, .string ⟨#[45]⟩, .string ⟨#[46]⟩, .string ⟨#[]⟩] 9)).drew (some S.g)) := Lib.hid (by have h := HGA.out; exact ⟨h.os, h.tape, h.output, h.size, h.block⟩)
      go_region_with ((with_reducible refine CO.out.mono ?_); rintro e w8 ⟨x, hx, rfl, k8, s8⟩; have hxs := s_four hx; clear hx; have z1 := no_over q x m k hq hxs hn4 hlt; have z2 := no_over2 q x m k hq hxs hn4 hlt)
      have HG8 := Lib.hid (grown_trans HG7.out (grown_trans HGA'.out k8))
      clear k8 z1 z2 HG7 HGA HGA' CO
      have hsz : (q.extract 0 m ++ x ++ q.extract m q.size).size ≤ 500 + (k + 1) := by
        have e1 := ByteArray.size_extract (a := q) (b := 0) (e := m)
        have e2 := ByteArray.size_extract (a := q) (b := m) (e := q.size)
        rw [ByteArray.size_append, ByteArray.size_append]
        omega
      go_wp2_with fail
      go_roundw
      case rel => exact ⟨k + 1, _, by omega, by go_num, rfl, hsz, HG8.out, strm_mono s8 (by omega)⟩
      case measure => simp [intOf]; omega
    · obtain rfl : k = n := by omega
      go_wp2_with fail
      with_reducible refine (flip_any S _ _ _ sr (by omega) (by omega)).mono ?_
      rintro e w7 ⟨f3, rfl, k7, s7⟩
      have HG7 := Lib.hid (grown_trans HGR.out k7)
      clear k7 sr HGR
      cases f3 with
      | false =>
        go_wp2_with fail
        go_ret
        exact ⟨q, by omega, rfl, HG7.out, strm_mono s7 (by omega)⟩
      | true =>
        go_wp2_with fail
        with_reducible refine (pick_at S _ [90, 100] 2 _ _ _ _ s7 (by omega) rfl (by omega) (by omega) (by simp) (by simp)).mono ?_
        rintro e w8 ⟨z, hz, rfl, k8, s8⟩
        have hzb : 0 ≤ z ∧ z ≤ 100 := by
          simp only [List.mem_cons, List.mem_nil_iff, or_false] at hz
          omega
        obtain ⟨hz0, hz1⟩ := hzb
        obtain ⟨z, rfl⟩ := Int.eq_ofNat_of_zero_le hz0
        have HG8 := Lib.hid (grown_trans HG7.out k8)
        have CRP := Lib.hid (fun w => Tryz.strings_Repeat ⟨#[32]⟩ z w (by omega) (by simp [ByteArray.size]; omega))
        have hrl : (⟨(Lib.repeatL [32] z).toArray⟩ : ByteArray).size ≤ 100 := by
          show (Lib.repeatL [32] z).toArray.size ≤ 100
          simp [Lib.repeatL_length]
          omega
        generalize (⟨(Lib.repeatL [32] z).toArray⟩ : ByteArray) = sp at *
        clear k8 s7 HG7 hz
        go_wp2_with fail
        with_reducible refine (CRP.out _).mono ?_
        rintro e w9 ⟨rfl, b9⟩
        have HG9 := Lib.hid (grown_trans HG8.out (grown_of_below b9 (some S.g)))
        have s9 := strm_below s8 b9
        clear b9 s8 HG8
        have z1 : ¬ (9223372036854775807 < q.size + sp.size) := by omega
        go_wp2_with fail
        go_ret
        exact ⟨_, show (q ++ sp).size ≤ 1000 by rw [ByteArray.size_append]; omega, rfl, HG9.out, strm_mono s9 (by omega)⟩
end Go.Proofs.YtdcanlkdhbmknaaGreatDoor
