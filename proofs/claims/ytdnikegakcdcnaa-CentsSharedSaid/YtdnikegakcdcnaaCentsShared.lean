/- The walk of the statement CentsShared. -/
import Derived.Test.YtdnikegakcdcnaaRow
import Derived.Test.YtdnikegakcdcnaaSharesMake
import Derived.Test.YtdnikegakcdcnaaShareFn
import Derived.Test.YtdnikegakcdcnaaEqual
set_option linter.unusedVariables false
namespace Go.Proofs.Ytdnikegakcdcnaa
open Go.RowKit Deal

theorem dealL_len (cents : Int) (zs : List Int) (h : zs.length ≤ 60) : (shL cents zs).length ≤ 9223372036854775807 := by
  unfold shL
  split
  · rw [dealL_length]; simp; omega
  · simp

set_option maxRecDepth 100000 in
set_option maxHeartbeats 4000000 in
theorem centsShared_walk (a0 : Option Addr) (len0 cap0 : Nat) (z0 : List Int) (w : World) (w0 : IsRow .i64 w a0 len0 cap0 z0) :
    Calls Try.prog 5 #[.slice a0 len0 cap0] w fun e w' => e = .returned (.bool true) ∧ Below w.heap.size w w' := by
  obtain ⟨S, hBS, hp, s0, g0⟩ := strm_begin w0
  clear w0
  go_enter Try.func5, Try.ntmps5
  go_wp2_with fail
  clear hp
  with_reducible refine (pick_at S _ [0, 1, 7, 100, 500, 1000000000000, -1, 1000000000001] 8 _ _ _ _ s0 (by omega) rfl (by omega) (by omega) (by simp) (by simp)).mono ?_
  rintro e w1 ⟨cents, hc, rfl, k1, s1⟩
  have hc' : -1 ≤ cents ∧ cents ≤ 1000000000001 := by
    simp only [List.mem_cons, List.mem_nil_iff, or_false] at hc
    omega
  have g1 := grown_trans g0 k1
  clear k1 g0 s0 hc
  go_wp2_with fail
  with_reducible refine (shares_any S _ _ s1 (by omega)).mono ?_
  rintro e w2 ⟨v, zs, ⟨hf, hl, hb⟩, rfl, hs, k2, s2⟩
  have g2 := grown_trans g1 k2
  have B2 := below_of_grown g2 hBS
  obtain ⟨a, c, rfl, hI⟩ := hs
  have HN := Lib.hid (rfl : zs.length = zs.length)
  have z2 := B2.size
  have C1 := Lib.hid (Share_any cents a zs zs.length c w2 rfl (by omega) hI hb (by omega) (by omega))
  have C2 := Lib.hid (fun w (hI : IntsAt w a zs) => ShareOf_any cents a zs zs.length c w rfl (by omega) hI (by omega) (by omega))
  have HLL := Lib.hid (dealL_len cents zs hl)
  have HI := Lib.hid hI
  have HB2 := Lib.hid B2
  unfold ShareOut at C1 C2
  generalize shE cents zs = ee at *
  generalize shL cents zs = ll at *
  generalize zs.length = n at *
  clear k2 g1 g2 s1 s2 hI hb hf B2 HN
  go_wp2_with fail
  with_reducible refine C1.out.mono ?_
  rintro e w3 ⟨v1, rfl, hv1, b3⟩
  have HV1 := Lib.hid hv1
  have HI3 := Lib.hid (HI.out.below b3)
  have HB3 := Lib.hid (HB2.out.trans (b3.mono z2))
  clear hv1 b3 HB2 HI C1
  go_wp2_with fail
  with_reducible refine (C2.out _ HI3.out).mono ?_
  rintro e w4 ⟨v2, rfl, hv2, b4⟩
  have HV2 := Lib.hid hv2
  have HV3 := Lib.hid (HV1.out.below b4)
  have HB4 := Lib.hid (HB3.out.trans (b4.mono HB3.out.size))
  clear hv2 b4 HB3 HI3 HV1 C2
  go_wp2_with fail
  with_reducible refine (offers_any _).mono ?_
  rintro e w5 ⟨rfl, rfl⟩
  go_wp2_with fail
  with_reducible refine (equal_same _ _ _ _ HV3.out HV2.out HLL.out).mono ?_
  rintro e w5 ⟨rfl, q, rfl⟩
  go_wp2
  go_ret
  exact ⟨rfl, below_dN HB4.out q⟩
end Go.Proofs.Ytdnikegakcdcnaa
