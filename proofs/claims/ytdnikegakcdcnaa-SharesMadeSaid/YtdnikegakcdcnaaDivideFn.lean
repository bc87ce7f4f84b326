/- Contracts of measure.Divide and of the reference DivideOf. -/
import Derived.Test.YtdnikegakcdcnaaDivide
set_option linter.unusedVariables false
namespace Go.Proofs.Ytdnikegakcdcnaa
open Go.RowKit Deal

def dvE (cents : Int) (zs : List Int) : Int := if cents < 0 ∨ 1000000000000 < cents then 1 else wE zs
def dvL (cents : Int) (zs : List Int) : List Int := if dvE cents zs = 0 then dealL true cents.toNat (zs.map Int.toNat) else []
def DivideOut (w : World) (cents : Int) (zs : List Int) (e : Ending) (w' : World) : Prop :=
  ∃ v, e = .returned (.tuple #[v, .int .i64 (dvE cents zs)]) ∧ SliceIs w' v (dvL cents zs) ∧ Below w.heap.size w w'
theorem divideOut_nil {w : World} {cents : Int} {zs : List Int} {k : Int} (h : dvE cents zs = k) (hk : k ≠ 0) : DivideOut w cents zs (.returned (.tuple #[.slice none 0 0, .int .i64 k])) w := by
  refine ⟨_, by rw [h], ?_, Below.refl _ _⟩
  unfold dvL
  rw [if_neg (by rw [h]; exact hk)]
  exact SliceIs.nil w
theorem divideOut_ok {w w' : World} {cents : Int} {zs : List Int} {g n c : Nat} (h : dvE cents zs = 0) (hl : (dvL cents zs).length = n) (hI : IntsAt w' (some ⟨g, 0, none⟩) (dvL cents zs)) (hb : Below w.heap.size w w') :
    DivideOut w cents zs (.returned (.tuple #[.slice (some ⟨g, 0, none⟩) n c, .int .i64 0])) w' :=
  ⟨_, by rw [h], ⟨some ⟨g, 0, none⟩, c, by rw [hl], hI⟩, hb⟩
theorem wE_zero {zs : List Int} (h : wE zs = 0) : zs.length ≤ 12 ∧ okL 1000000 zs = true ∧ zeroL zs = false := by
  unfold wE at h
  by_cases b1 : 12 < zs.length
  · rw [if_pos b1] at h; cases h
  rw [if_neg b1] at h
  by_cases b2 : okL 1000000 zs = false
  · rw [if_pos b2] at h; cases h
  rw [if_neg b2] at h
  by_cases b3 : zeroL zs = true
  · rw [if_pos b3] at h; cases h
  exact ⟨by omega, by simpa using b2, by simpa using b3⟩

set_option maxHeartbeats 1000000 in
theorem Divide_any (cents : Int) (a : Option Addr) (zs : List Int) (n cp : Nat) (w : World) (hn : zs.length = n) (hn1 : n ≤ 1000) (hI : IntsAt w a zs) (hc1 : -9223372036854775808 ≤ cents) (hc2 : cents ≤ 9223372036854775807) :
    Calls Try.prog 45 #[.int .i64 cents, .slice a n cp] w (DivideOut w cents zs) := by
  have HN := Lib.hid hn
  have HI := Lib.hid hI
  have HW := Lib.hid (checkWeights_any a zs n cp w hn hn1 hI)
  clear hn hI
  by_cases b1 : cents < 0 ∨ 1000000000000 < cents
  · have HE := Lib.hid (show dvE cents zs = 1 by unfold dvE; rw [if_pos b1])
    go_enter Try.func45, Try.ntmps45
    go_wp2_with fail
    with_reducible refine (within_no _ _ _ _ b1).mono ?_
    rintro e w' ⟨rfl, rfl⟩
    go_wp2
    go_ret2
    exact divideOut_nil HE.out (by decide)
  have b1' : 0 ≤ cents ∧ cents ≤ 1000000000000 := by omega
  have HE0 := Lib.hid (show dvE cents zs = wE zs by unfold dvE; rw [if_neg b1])
  clear b1
  by_cases he : wE zs = 0
  · obtain ⟨h1, hok, hz⟩ := wE_zero he
    have HE := Lib.hid (HE0.out.trans he)
    rw [he] at HW
    have hwl : (zs.map Int.toNat).length = n := by simpa using HN.out
    have hna : natsAt w a (zs.map Int.toNat) := by unfold natsAt; rw [ws_cast hok]; exact HI.out
    have hle := ws_le (M := 1000000) hok
    have hs := ws_pos hok hz
    have hs2 := ws_sum_le 1000000 _ hle
    obtain ⟨c, rfl⟩ := Int.eq_ofNat_of_zero_le b1'.1
    have HD := Lib.hid (divide_any c a (zs.map Int.toNat) n cp w (by omega) hwl (by have := zeroL_nil hz; have := HN.out; omega) (by have := HN.out; omega) hna hle hs (by rw [hwl] at hs2; have := HN.out; omega))
    have HS := Lib.hid (show dvL (c : Int) zs = dealL true c (zs.map Int.toNat) by unfold dvL; rw [if_pos HE.out]; rfl)
    rw [← HS.out] at HD
    have HLEN := Lib.hid (show (dvL (c : Int) zs).length = n by rw [HS.out, dealL_length, hwl])
    clear hok hwl hna hle hz hs hs2 HS he h1
    go_enter Try.func45, Try.ntmps45
    go_wp2_with fail
    with_reducible refine (within_yes _ _ _ _ b1'.1 b1'.2).mono ?_
    rintro e w' ⟨rfl, rfl⟩
    go_wp2_with fail
    with_reducible refine HW.out.mono ?_
    rintro e w' ⟨rfl, rfl⟩
    go_wp2_with fail
    with_reducible refine HD.out.mono ?_
    rintro e w' ⟨g, cap, rfl, hI', hb⟩
    have HI' := Lib.hid hI'
    clear hI'
    go_wp2
    go_ret2
    exact divideOut_ok HE.out HLEN.out HI'.out hb
  · have he' : (wE zs != 0) = true := by simp [he]
    generalize wE zs = ee at *
    go_enter Try.func45, Try.ntmps45
    go_wp2_with fail
    with_reducible refine (within_yes _ _ _ _ b1'.1 b1'.2).mono ?_
    rintro e w' ⟨rfl, rfl⟩
    go_wp2_with fail
    with_reducible refine HW.out.mono ?_
    rintro e w' ⟨rfl, rfl⟩
    go_wp2
    go_ret2
    exact divideOut_nil HE0.out he

set_option maxHeartbeats 1000000 in
theorem DivideOf_any (cents : Int) (a : Option Addr) (zs : List Int) (n cp : Nat) (w : World) (hn : zs.length = n) (hn1 : n ≤ 1000) (hI : IntsAt w a zs) (hc1 : -9223372036854775808 ≤ cents) (hc2 : cents ≤ 9223372036854775807) :
    Calls Try.prog 46 #[.int .i64 cents, .slice a n cp] w (DivideOut w cents zs) := by
  have HN := Lib.hid hn
  have HI := Lib.hid hI
  have HW := Lib.hid (weightsFault_any a zs n cp w hn hn1 hI)
  clear hn hI
  by_cases b1 : cents < 0 ∨ 1000000000000 < cents
  · have HE := Lib.hid (show dvE cents zs = 1 by unfold dvE; rw [if_pos b1])
    go_enter Try.func46, Try.ntmps46
    go_wp2
    all_goals first
      | (exfalso; omega)
      | (go_ret2
         exact divideOut_nil HE.out (by decide))
  have b1' : 0 ≤ cents ∧ cents ≤ 1000000000000 := by omega
  have HE0 := Lib.hid (show dvE cents zs = wE zs by unfold dvE; rw [if_neg b1])
  clear b1
  by_cases he : wE zs = 0
  · obtain ⟨h1, hok, hz⟩ := wE_zero he
    have HE := Lib.hid (HE0.out.trans he)
    rw [he] at HW
    have hwl : (zs.map Int.toNat).length = n := by simpa using HN.out
    have hna : natsAt w a (zs.map Int.toNat) := by unfold natsAt; rw [ws_cast hok]; exact HI.out
    have hle := ws_le (M := 1000000) hok
    have hs := ws_pos hok hz
    have hs2 := ws_sum_le 1000000 _ hle
    obtain ⟨c, rfl⟩ := Int.eq_ofNat_of_zero_le b1'.1
    have HD := Lib.hid (dealt_any true c a (zs.map Int.toNat) n cp w (by omega) hwl (by have := zeroL_nil hz; have := HN.out; omega) (by omega) hna (fun x hx => by have := hle x hx; omega) hs (by rw [hwl] at hs2; have := HN.out; omega))
    have HS := Lib.hid (show dvL (c : Int) zs = dealL true c (zs.map Int.toNat) by unfold dvL; rw [if_pos HE.out]; rfl)
    rw [← HS.out] at HD
    have HLEN := Lib.hid (show (dvL (c : Int) zs).length = n by rw [HS.out, dealL_length, hwl])
    clear hok hwl hna hle hz hs hs2 HS he h1
    go_enter Try.func46, Try.ntmps46
    go_wp2_with fail
    with_reducible refine HW.out.mono ?_
    rintro e w' ⟨rfl, rfl⟩
    go_wp2_with fail
    with_reducible refine HD.out.mono ?_
    rintro e w' ⟨g, rfl, hI', hb⟩
    have HI' := Lib.hid hI'
    clear hI'
    go_wp2
    go_ret2
    exact divideOut_ok HE.out HLEN.out HI'.out hb
  · have he' : (wE zs != 0) = true := by simp [he]
    generalize wE zs = ee at *
    go_enter Try.func46, Try.ntmps46
    go_wp2_with fail
    with_reducible refine HW.out.mono ?_
    rintro e w' ⟨rfl, rfl⟩
    go_wp2
    go_ret2
    exact divideOut_nil HE0.out he
end Go.Proofs.Ytdnikegakcdcnaa
