/- The contract of the reference ShareOf. -/
import Derived.Test.YtdnikegakcdcnaaDealt
import Derived.Test.YtdnikegakcdcnaaShareSpec
set_option linter.unusedVariables false
namespace Go.Proofs.Ytdnikegakcdcnaa
open Go.RowKit Deal

/-- a slice value that reads as numbers -/
def SliceIs (w : World) (v : Value) (l : List Int) : Prop := ∃ a c, v = .slice a l.length c ∧ IntsAt w a l
theorem SliceIs.nil (w : World) : SliceIs w (.slice none 0 0) [] := ⟨none, 0, rfl, IntsAt.nil _ _⟩
theorem SliceIs.below {w w' : World} {v : Value} {l : List Int} (h : SliceIs w v l) (hb : Below w.heap.size w w') : SliceIs w' v l := by
  obtain ⟨a, c, h1, h2⟩ := h
  exact ⟨a, c, h1, h2.below hb⟩
/-- what both of them leave -/
def ShareOut (w : World) (cents : Int) (zs : List Int) (e : Ending) (w' : World) : Prop :=
  ∃ v, e = .returned (.tuple #[v, .int .i64 (shE cents zs)]) ∧ SliceIs w' v (shL cents zs) ∧ Below w.heap.size w w'
theorem shareOut_nil {w : World} {cents : Int} {zs : List Int} {k : Int} (h : shE cents zs = k) (hk : k ≠ 0) : ShareOut w cents zs (.returned (.tuple #[.slice none 0 0, .int .i64 k])) w := by
  refine ⟨_, by rw [h], ?_, Below.refl _ _⟩
  unfold shL
  rw [if_neg (by rw [h]; exact hk)]
  exact SliceIs.nil w

theorem shareOut_ok {w w' : World} {cents : Int} {zs : List Int} {g n c : Nat} (h : shE cents zs = 0) (hl : (shL cents zs).length = n) (hI : IntsAt w' (some ⟨g, 0, none⟩) (shL cents zs)) (hb : Below w.heap.size w w') :
    ShareOut w cents zs (.returned (.tuple #[.slice (some ⟨g, 0, none⟩) n c, .int .i64 0])) w' :=
  ⟨_, by rw [h], ⟨some ⟨g, 0, none⟩, c, by rw [hl], hI⟩, hb⟩

set_option maxHeartbeats 1000000 in
theorem ShareOf_any (cents : Int) (a : Option Addr) (zs : List Int) (n cp : Nat) (w : World) (hn : zs.length = n) (hn1 : n ≤ 1000) (hI : IntsAt w a zs) (hc1 : -9223372036854775808 ≤ cents) (hc2 : cents ≤ 9223372036854775807) :
    Calls Try.prog 32 #[.int .i64 cents, .slice a n cp] w (ShareOut w cents zs) := by
  have HN := Lib.hid hn
  have HI := Lib.hid hI
  clear hn hI
  by_cases b1 : cents < 0 ∨ 1000000000000 < cents
  · have HE := Lib.hid (show shE cents zs = 1 by unfold shE; rw [if_pos b1])
    go_enter Try.func32, Try.ntmps32
    go_wp2
    all_goals first
      | (exfalso; omega)
      | (go_ret2
         exact shareOut_nil HE.out (by decide))
  by_cases b2 : 50 < n
  · have HE := Lib.hid (show shE cents zs = 2 by unfold shE; rw [if_neg b1, if_pos (by rw [HN.out]; exact b2)])
    have b1' : 0 ≤ cents ∧ cents ≤ 1000000000000 := by omega
    clear b1
    go_enter Try.func32, Try.ntmps32
    go_wp2
    go_ret2
    exact shareOut_nil HE.out (by decide)
  have HE0 := Lib.hid (show shE cents zs = if okL 1000000000000 zs = false then 1 else if zeroL zs = true then 8 else 0 by unfold shE; rw [if_neg b1, if_neg (by rw [HN.out]; exact b2)])
  have b1' : 0 ≤ cents ∧ cents ≤ 1000000000000 := by omega
  clear b1
  go_enter Try.func32, Try.ntmps32
  go_wp2
  go_loop [7, 19] (fun _ i => ∃ k : Nat, k ≤ n ∧ i = .int .i64 k ∧ okL 1000000000000 (zs.take k) = true) (fun _ i => n - (intOf i).toNat)
  case atStart => exact ⟨0, Nat.zero_le _, rfl, rfl⟩
  case round =>
    obtain ⟨k, hk, rfl, hok⟩ := hrel
    have HOK := Lib.hid hok
    clear hok
    by_cases hlt : k < n
    · have hkz : k < zs.length := by have := HN.out; omega
      obtain ⟨p, off, rfl, hp, hcell⟩ := HI.out.at_ hkz
      have HT := Lib.hid (okL_take 1000000000000 zs k hkz HOK.out)
      have HX := Lib.hid (okL_not 1000000000000 zs k hkz)
      by_cases hz : 0 ≤ zs[k] ∧ zs[k] ≤ 1000000000000
      · have HZ := Lib.hid (show okZ 1000000000000 zs[k] = true by simp [okZ]; exact hz)
        generalize zs[k] = z at *
        go_wp2
        go_round
        case rel => exact ⟨k + 1, by omega, by go_num, by rw [HT.out, HZ.out]⟩
        case measure => simp [intOf]; omega
      · have HE := Lib.hid (HE0.out.trans (if_pos (HX.out (by simp [okZ]; omega))))
        generalize zs[k] = z at *
        go_wp2
        all_goals first
          | (exfalso; omega)
          | (go_ret2
             exact shareOut_nil HE.out (by decide))
    · have hT : zs.take k = zs := List.take_of_length_le (by have := HN.out; omega)
      have hok : okL 1000000000000 zs = true := by rw [← hT]; exact HOK.out
      have hwl : (zs.map Int.toNat).length = n := by simpa using HN.out
      have hna : natsAt w a (zs.map Int.toNat) := by unfold natsAt; rw [ws_cast hok]; exact HI.out
      have hle := ws_le (M := 1000000000000) hok
      have HC := Lib.hid (total_nats a (zs.map Int.toNat) n cp w hwl (by omega) hna hle)
      by_cases hz : zeroL zs = true
      · have HE := Lib.hid (show shE cents zs = 8 by rw [HE0.out, if_neg (by rw [hok]; decide), if_pos hz])
        have hs := zero_sum hok hz
        rw [hs] at HC
        clear hT hok hwl hna hle hz hs
        go_wp2_with fail
        with_reducible refine HC.out.mono ?_
        rintro e w' ⟨rfl, rfl⟩
        go_wp2
        go_ret2
        exact shareOut_nil HE.out (by decide)
      · have hz' : zeroL zs = false := by simpa using hz
        have HE := Lib.hid (show shE cents zs = 0 by rw [HE0.out, if_neg (by rw [hok]; decide), if_neg hz])
        have hs := ws_pos hok hz'
        have hs2 := ws_sum_le 1000000000000 _ hle
        obtain ⟨c, rfl⟩ := Int.eq_ofNat_of_zero_le b1'.1
        have HD := Lib.hid (dealt_any false c a (zs.map Int.toNat) n cp w (by omega) hwl (by have := zeroL_nil hz'; have := HN.out; omega) (by omega) hna hle hs (by rw [hwl] at hs2; omega))
        have HS := Lib.hid (show shL (c : Int) zs = dealL false c (zs.map Int.toNat) by unfold shL; rw [if_pos HE.out]; rfl)
        rw [← HS.out] at HD
        have hne : (((zs.map Int.toNat).sum : Nat) : Int) ≠ 0 := by omega
        have HLEN := Lib.hid (show (shL (c : Int) zs).length = n by rw [HS.out, dealL_length, hwl])
        clear hT hok hwl hna hle hz hs hz' hs2 HS
        generalize (zs.map Int.toNat).sum = S at *
        go_wp2_with fail
        with_reducible refine HC.out.mono ?_
        rintro e w' ⟨rfl, rfl⟩
        go_wp2_with fail
        with_reducible refine HD.out.mono ?_
        rintro e w' ⟨g, rfl, hI', hb⟩
        have HI' := Lib.hid hI'
        clear hI'
        go_wp2
        go_ret2
        exact shareOut_ok HE.out HLEN.out HI'.out hb
end Go.Proofs.Ytdnikegakcdcnaa
