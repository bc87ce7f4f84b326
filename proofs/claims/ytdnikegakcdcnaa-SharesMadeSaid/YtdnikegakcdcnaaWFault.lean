/- Contracts of measure.checkWeights and of the reference weightsFault. -/
import Derived.Test.YtdnikegakcdcnaaNats
import Derived.Test.YtdnikegakcdcnaaSums
import Derived.Test.YtdnikegakcdcnaaMeasure
import Derived.Test.YtdnikegakcdcnaaShareSpec
set_option linter.unusedVariables false
namespace Go.Proofs.Ytdnikegakcdcnaa
open Go.RowKit Deal

/-- what is wrong with weights -/
def wE (zs : List Int) : Int := if 12 < zs.length then 2 else if okL 1000000 zs = false then 1 else if zeroL zs = true then 8 else 0

theorem okL_bd {zs : List Int} (h : okL 1000000 zs = true) : ∀ z ∈ zs, 0 ≤ z ∧ z ≤ 1000000000000 := fun z hz => by
  have := okL_mem h hz
  omega
theorem sum_of_ok {M : Int} {zs : List Int} (h : okL M zs = true) : zs.sum = (((zs.map Int.toNat).sum : Nat) : Int) := by
  rw [← sum_cast, ws_cast h]

theorem checkWeights_any (a : Option Addr) (zs : List Int) (n c : Nat) (w : World) (hn : zs.length = n) (hn1 : n ≤ 1000) (hI : IntsAt w a zs) :
    Calls Try.prog 74 #[.slice a n c] w fun e w' => e = .returned (.int .i64 (wE zs)) ∧ w = w' := by
  have HN := Lib.hid hn
  have HI := Lib.hid hI
  clear hn hI
  by_cases b2 : 12 < n
  · have HE := Lib.hid (show wE zs = 2 by unfold wE; rw [if_pos (by rw [HN.out]; exact b2)])
    go_enter Try.func74, Try.ntmps74
    go_wp2
    go_ret
    exact ⟨ret_int HE.out.symm, rfl⟩
  have HE0 := Lib.hid (show wE zs = if okL 1000000 zs = false then 1 else if zeroL zs = true then 8 else 0 by unfold wE; rw [if_neg (by rw [HN.out]; exact b2)])
  go_enter Try.func74, Try.ntmps74
  go_wp2
  go_loop [4, 10] (fun _ i => ∃ k : Nat, k ≤ n ∧ i = .int .i64 k ∧ okL 1000000 (zs.take k) = true) (fun _ i => n - (intOf i).toNat)
  case atStart => exact ⟨0, Nat.zero_le _, rfl, rfl⟩
  case round =>
    obtain ⟨k, hk, rfl, hok⟩ := hrel
    have HOK := Lib.hid hok
    clear hok
    by_cases hlt : k < n
    · have hkz : k < zs.length := by have := HN.out; omega
      obtain ⟨p, off, rfl, hp, hcell⟩ := HI.out.at_ hkz
      have HT := Lib.hid (okL_take 1000000 zs k hkz HOK.out)
      have HX := Lib.hid (okL_not 1000000 zs k hkz)
      by_cases hz : 0 ≤ zs[k] ∧ zs[k] ≤ 1000000
      · have HZ := Lib.hid (show okZ 1000000 zs[k] = true by simp [okZ]; exact hz)
        generalize zs[k] = z at *
        go_wp2_with fail
        with_reducible refine (within_yes _ _ _ _ hz.1 hz.2).mono ?_
        rintro e w' ⟨rfl, rfl⟩
        go_wp2
        go_round
        case rel => exact ⟨k + 1, by omega, by go_num, by rw [HT.out, HZ.out]⟩
        case measure => simp [intOf]; omega
      · have HE := Lib.hid (HE0.out.trans (if_pos (HX.out (by simp [okZ]; omega))))
        generalize zs[k] = z at *
        go_wp2_with fail
        with_reducible refine (within_no _ _ _ _ (by omega)).mono ?_
        rintro e w' ⟨rfl, rfl⟩
        go_wp2
        go_ret
        exact ⟨ret_int HE.out.symm, rfl⟩
    · have hT : zs.take k = zs := List.take_of_length_le (by have := HN.out; omega)
      have hok : okL 1000000 zs = true := by rw [← hT]; exact HOK.out
      have HC := Lib.hid (sumOf_any a zs n c w HN.out (by omega) HI.out (okL_bd hok))
      rw [sum_of_ok hok] at HC
      by_cases hz : zeroL zs = true
      · have HE := Lib.hid (show wE zs = 8 by rw [HE0.out, if_neg (by rw [hok]; decide), if_pos hz])
        rw [zero_sum hok hz] at HC
        clear hT hok hz
        go_wp2_with fail
        with_reducible refine HC.out.mono ?_
        rintro e w' ⟨rfl, rfl⟩
        go_wp2
        go_ret
        exact ⟨ret_int HE.out.symm, rfl⟩
      · have hz' : zeroL zs = false := by simpa using hz
        have HE := Lib.hid (show wE zs = 0 by rw [HE0.out, if_neg (by rw [hok]; decide), if_neg hz])
        have hs := ws_pos hok hz'
        have hne : (((zs.map Int.toNat).sum : Nat) : Int) ≠ 0 := by omega
        generalize (zs.map Int.toNat).sum = s at *
        clear hT hok hz hz' hs
        go_wp2_with fail
        with_reducible refine HC.out.mono ?_
        rintro e w' ⟨rfl, rfl⟩
        go_wp2
        go_ret
        exact ⟨ret_int HE.out.symm, rfl⟩

theorem weightsFault_any (a : Option Addr) (zs : List Int) (n c : Nat) (w : World) (hn : zs.length = n) (hn1 : n ≤ 1000) (hI : IntsAt w a zs) :
    Calls Try.prog 75 #[.slice a n c] w fun e w' => e = .returned (.int .i64 (wE zs)) ∧ w = w' := by
  have HN := Lib.hid hn
  have HI := Lib.hid hI
  clear hn hI
  by_cases b2 : 12 < n
  · have HE := Lib.hid (show wE zs = 2 by unfold wE; rw [if_pos (by rw [HN.out]; exact b2)])
    go_enter Try.func75, Try.ntmps75
    go_wp2
    go_ret
    exact ⟨ret_int HE.out.symm, rfl⟩
  have HE0 := Lib.hid (show wE zs = if okL 1000000 zs = false then 1 else if zeroL zs = true then 8 else 0 by unfold wE; rw [if_neg (by rw [HN.out]; exact b2)])
  go_enter Try.func75, Try.ntmps75
  go_wp2
  go_loop [3, 5, 11] (fun s _ i => ∃ k : Nat, k ≤ n ∧ i = .int .i64 k ∧ okL 1000000 (zs.take k) = true ∧ s = .int .i64 (zs.take k).sum) (fun _ _ i => n - (intOf i).toNat)
  case atStart => exact ⟨0, Nat.zero_le _, rfl, rfl, rfl⟩
  case round =>
    obtain ⟨k, hk, rfl, hok, rfl⟩ := hrel
    obtain ⟨s1, s2⟩ := sum_bd (zs.take k) 1000000 (fun z hz => okL_mem hok hz)
    have s3 : 1000000 * ((zs.take k).length : Int) ≤ 1000000000 := by
      have : (zs.take k).length ≤ k := List.length_take_le _ _
      omega
    have HOK := Lib.hid hok
    clear hok
    by_cases hlt : k < n
    · have hkz : k < zs.length := by have := HN.out; omega
      obtain ⟨p, off, rfl, hp, hcell⟩ := HI.out.at_ hkz
      have HT := Lib.hid (okL_take 1000000 zs k hkz HOK.out)
      have HX := Lib.hid (okL_not 1000000 zs k hkz)
      have HS := Lib.hid (sum_snoc zs k hkz)
      by_cases hz : 0 ≤ zs[k] ∧ zs[k] ≤ 1000000
      · have HZ := Lib.hid (show okZ 1000000 zs[k] = true by simp [okZ]; exact hz)
        generalize zs[k] = z at *
        generalize (zs.take k).sum = s at *
        generalize ((zs.take k).length : Int) = l at *
        go_wp2
        go_round
        case rel => exact ⟨k + 1, by omega, by go_num, by rw [HT.out, HZ.out], by rw [HS.out]⟩
        case measure => simp [intOf]; omega
      · have HE := Lib.hid (HE0.out.trans (if_pos (HX.out (by simp [okZ]; omega))))
        generalize zs[k] = z at *
        generalize (zs.take k).sum = s at *
        generalize ((zs.take k).length : Int) = l at *
        go_wp2
        all_goals first
          | (exfalso; omega)
          | (go_ret
             exact ⟨ret_int HE.out.symm, rfl⟩)
    · have hT : zs.take k = zs := List.take_of_length_le (by have := HN.out; omega)
      have hok : okL 1000000 zs = true := by rw [← hT]; exact HOK.out
      rw [hT, sum_of_ok hok]
      by_cases hz : zeroL zs = true
      · have HE := Lib.hid (show wE zs = 8 by rw [HE0.out, if_neg (by rw [hok]; decide), if_pos hz])
        rw [zero_sum hok hz]
        clear hT hok hz s1 s2 s3
        go_wp2
        go_ret
        exact ⟨ret_int HE.out.symm, rfl⟩
      · have hz' : zeroL zs = false := by simpa using hz
        have HE := Lib.hid (show wE zs = 0 by rw [HE0.out, if_neg (by rw [hok]; decide), if_neg hz])
        have hs := ws_pos hok hz'
        have hne : (((zs.map Int.toNat).sum : Nat) : Int) ≠ 0 := by omega
        generalize (zs.map Int.toNat).sum = s at *
        clear hT hok hz hz' hs s1 s2 s3
        go_wp2
        go_ret
        exact ⟨ret_int HE.out.symm, rfl⟩
end Go.Proofs.Ytdnikegakcdcnaa
