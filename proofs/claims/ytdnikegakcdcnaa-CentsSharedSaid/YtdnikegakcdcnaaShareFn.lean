/- The contract of offer.Share. -/
import Derived.Test.YtdnikegakcdcnaaShare
import Derived.Test.YtdnikegakcdcnaaShareOf
import Derived.Test.YtdnikegakcdcnaaOffers
set_option linter.unusedVariables false
namespace Go.Proofs.Ytdnikegakcdcnaa
open Go.RowKit Deal

set_option maxHeartbeats 1000000 in
theorem Share_any (cents : Int) (a : Option Addr) (zs : List Int) (n cp : Nat) (w : World) (hn : zs.length = n) (hn1 : n ≤ 1000) (hI : IntsAt w a zs) (hbig : n < 20 ∨ 50 < n ∨ zeroL zs = true) (hc1 : -9223372036854775808 ≤ cents) (hc2 : cents ≤ 9223372036854775807) :
    Calls Try.prog 31 #[.int .i64 cents, .slice a n cp] w (ShareOut w cents zs) := by
  have HN := Lib.hid hn
  have HI := Lib.hid hI
  have HG := Lib.hid hbig
  clear hn hI hbig
  by_cases b1 : cents < 0 ∨ 1000000000000 < cents
  · have HE := Lib.hid (show shE cents zs = 1 by unfold shE; rw [if_pos b1])
    go_enter Try.func31, Try.ntmps31
    go_wp2_with fail
    with_reducible refine (owithin_no _ _ _ _ b1).mono ?_
    rintro e w' ⟨rfl, rfl⟩
    go_wp2
    go_ret2
    exact shareOut_nil HE.out (by decide)
  have b1' : 0 ≤ cents ∧ cents ≤ 1000000000000 := by omega
  by_cases b2 : 50 < n
  · have HE := Lib.hid (show shE cents zs = 2 by unfold shE; rw [if_neg b1, if_pos (by rw [HN.out]; exact b2)])
    clear b1
    go_enter Try.func31, Try.ntmps31
    go_wp2_with fail
    with_reducible refine (owithin_yes _ _ _ _ b1'.1 b1'.2).mono ?_
    rintro e w' ⟨rfl, rfl⟩
    go_wp2
    go_ret2
    exact shareOut_nil HE.out (by decide)
  have HE0 := Lib.hid (show shE cents zs = if okL 1000000000000 zs = false then 1 else if zeroL zs = true then 8 else 0 by unfold shE; rw [if_neg b1, if_neg (by rw [HN.out]; exact b2)])
  clear b1
  go_enter Try.func31, Try.ntmps31
  go_wp2_with fail
  with_reducible refine (owithin_yes _ _ _ _ b1'.1 b1'.2).mono ?_
  rintro e w' ⟨rfl, rfl⟩
  go_wp2_with fail
  go_loop [6, 8, 19] (fun f _ i => ∃ k : Nat, k ≤ n ∧ i = .int .i64 k ∧ okL 1000000000000 (zs.take k) = true ∧ f = .bool (zeroL (zs.take k))) (fun _ _ i => n - (intOf i).toNat)
  case atStart => exact ⟨0, Nat.zero_le _, rfl, rfl, rfl⟩
  case round =>
    obtain ⟨k, hk, rfl, hok, rfl⟩ := hrel
    have HOK := Lib.hid hok
    clear hok
    by_cases hlt : k < n
    · have hkz : k < zs.length := by have := HN.out; omega
      obtain ⟨p, off, rfl, hp, hcell⟩ := HI.out.at_ hkz
      have HT := Lib.hid (okL_take 1000000000000 zs k hkz HOK.out)
      have HX := Lib.hid (okL_not 1000000000000 zs k hkz)
      have HF := Lib.hid (zeroL_take zs k hkz)
      by_cases hz : 0 ≤ zs[k] ∧ zs[k] ≤ 1000000000000
      · have HZ := Lib.hid (show okZ 1000000000000 zs[k] = true by simp [okZ]; exact hz)
        generalize zs[k] = z at *
        generalize zeroL (zs.take k) = f at *
        go_wp2_with fail
        with_reducible refine (owithin_yes _ _ _ _ hz.1 hz.2).mono ?_
        rintro e w' ⟨rfl, rfl⟩
        cases f with
        | true =>
          go_wp2
          go_round
          case rel => exact ⟨k + 1, by omega, by go_num, by rw [HT.out, HZ.out], by rw [HF.out]; rfl⟩
          case measure => simp [intOf]; omega
        | false =>
          go_wp2
          go_round
          case rel => exact ⟨k + 1, by omega, by go_num, by rw [HT.out, HZ.out], by rw [HF.out]; rfl⟩
          case measure => simp [intOf]; omega
      · have HE := Lib.hid (HE0.out.trans (if_pos (HX.out (by simp [okZ]; omega))))
        generalize zs[k] = z at *
        go_wp2_with fail
        with_reducible refine (owithin_no _ _ _ _ (by omega)).mono ?_
        rintro e w' ⟨rfl, rfl⟩
        go_wp2
        go_ret2
        exact shareOut_nil HE.out (by decide)
    · have hT : zs.take k = zs := List.take_of_length_le (by have := HN.out; omega)
      have hok : okL 1000000000000 zs = true := by rw [← hT]; exact HOK.out
      rw [hT]
      have hwl : (zs.map Int.toNat).length = n := by simpa using HN.out
      have hna : natsAt w a (zs.map Int.toNat) := by unfold natsAt; rw [ws_cast hok]; exact HI.out
      have hle := ws_le (M := 1000000000000) hok
      by_cases hz : zeroL zs = true
      · have HE := Lib.hid (show shE cents zs = 8 by rw [HE0.out, if_neg (by rw [hok]; decide), if_pos hz])
        rw [hz]
        clear hT hok hwl hna hle hz
        go_wp2
        go_ret2
        exact shareOut_nil HE.out (by decide)
      · have hz' : zeroL zs = false := by simpa using hz
        have HE := Lib.hid (show shE cents zs = 0 by rw [HE0.out, if_neg (by rw [hok]; decide), if_neg hz])
        have hs := ws_pos hok hz'
        have hs2 := ws_sum_le 1000000000000 _ hle
        have hn20 : n < 20 := by
          rcases HG.out with h | h | h
          · exact h
          · omega
          · rw [hz'] at h; cases h
        obtain ⟨c, rfl⟩ := Int.eq_ofNat_of_zero_le b1'.1
        have HD := Lib.hid (share_any c a (zs.map Int.toNat) n cp w (by omega) hwl (by have := zeroL_nil hz'; have := HN.out; omega) hn20 hna hle hs (by rw [hwl] at hs2; omega))
        have HS := Lib.hid (show shL (c : Int) zs = dealL false c (zs.map Int.toNat) by unfold shL; rw [if_pos HE.out]; rfl)
        rw [← HS.out] at HD
        have HLEN := Lib.hid (show (shL (c : Int) zs).length = n by rw [HS.out, dealL_length, hwl])
        rw [hz']
        clear hT hok hwl hna hle hz hs hz' hs2 HS
        go_wp2_with fail
        with_reducible refine HD.out.mono ?_
        rintro e w' ⟨g, cap, rfl, hI', hb⟩
        have HI' := Lib.hid hI'
        clear hI'
        go_wp2
        go_ret2
        exact shareOut_ok HE.out HLEN.out HI'.out hb
end Go.Proofs.Ytdnikegakcdcnaa
