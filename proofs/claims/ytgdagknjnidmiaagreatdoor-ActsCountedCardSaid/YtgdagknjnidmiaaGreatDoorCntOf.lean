/- The reference's way to count: a closure that asks a map of kinds. -/
import Derived.Test.YtgdagknjnidmiaaGreatDoorVInt
import Derived.Test.YtgdagknjnidmiaaGreatDoorRwO
import Derived.Test.YtgdagknjnidmiaaGreatDoorInts
import Derived.Test.YtgdagknjnidmiaaGreatDoorCount
import Derived.Deep.RegionWith
import Derived.Deep.Cut
set_option linter.unusedVariables false
namespace Go.Proofs.YtgdagknjnidmiaaGreatDoor
open Go.RowKit Go.Maps

theorem zero_boolW (w : World) : (zeroValue 4).run Tryz.prog w = .ok (.bool false) w := by kernel_rfl
theorem stHas1_any (q b n : Nat) (ks : List Int) (f : Int → Bool) (k : Int) (w : World) (hq : w.cell? ⟨q, 0, none⟩ = some (.map (some b))) (hV : VI w (.bool false) b n ks (fun k => .bool (f k))) (h0 : -100 ≤ k) (h1 : k ≤ 100) :
    Calls Tryz.prog 40 #[.int .i64 k, .pointer (some ⟨q, 0, none⟩)] w fun e w' => e = .returned (.bool (f k)) ∧ w = w' := by
  have hql := World.block_lt_of_cell? w _ hq
  have hlk := hV.look Tryz.underlying83 (zero_boolW _) k (by omega) (by omega)
  go_enter Tryz.func40, Tryz.ntmps40
  go_wp2_with fail
  go_ret
  exact ⟨rfl, rfl⟩
theorem any_takeI (zs : List Int) (f : Int → Bool) (k : Nat) (h : k < zs.length) : (zs.take (k + 1)).any f = ((zs.take k).any f || f zs[k]) := by
  rw [List.take_succ_eq_append_getElem h, List.any_append]
  simp
set_option maxRecDepth 100000 in
set_option maxHeartbeats 4000000 in
theorem stIdxI_any (a : Option Addr) (zs : List Int) (m c : Nat) (q b n : Nat) (ks : List Int) (f : Int → Bool) (w : World) (hn : zs.length = m) (hn1 : m ≤ 1000) (hI : IntsAt w a zs) (hb : ∀ z ∈ zs, -100 ≤ z ∧ z ≤ 100) (hq : w.cell? ⟨q, 0, none⟩ = some (.map (some b))) (hV : VI w (.bool false) b n ks (fun k => .bool (f k))) :
    Calls Tryz.prog 68 #[.slice a m c, .func (.func 40) #[] #[.pointer (some ⟨q, 0, none⟩)]] w fun e w' => (∃ r : Int, e = .returned (.int .i64 r) ∧ decide (0 ≤ r) = zs.any f) ∧ w = w' := by
  have HN := Lib.hid hn
  have HI := Lib.hid hI
  have HB := Lib.hid hb
  have C0 := Lib.hid (fun k h0 h1 => stHas1_any q b n ks f k w hq hV h0 h1)
  clear hn hI hb hV hq
  go_enter Tryz.func68, Tryz.ntmps68
  go_wp2_with fail
  go_loopw [5, 8] (fun _ i wr => ∃ k : Nat, k ≤ m ∧ i = .int .i64 k ∧ w = wr ∧ Hid ((zs.take k).any f = false)) (fun _ i _ => m - (intOf i).toNat)
  case atStart => exact ⟨0, Nat.zero_le _, rfl, rfl, Lib.hid rfl⟩
  case round =>
    obtain ⟨k, hk, rfl, rfl, hH⟩ := hrel
    by_cases hlt : k < m
    · have hkl : k < zs.length := by have := HN.out; omega
      obtain ⟨p, off, rfl, hp, c0⟩ := HI.out k hkl
      obtain ⟨hz0, hz1⟩ := HB.out zs[k] (List.getElem_mem hkl)
      have C := Lib.hid (C0.out zs[k] hz0 hz1)
      have HT := Lib.hid (any_takeI zs f k hkl)
      have HM := Lib.hid (fun h : f zs[k] = true => show zs.any f = true from List.any_eq_true.2 ⟨zs[k], List.getElem_mem hkl, h⟩)
      generalize zs[k] = z at *
      obtain ⟨b, hb⟩ : ∃ b, f z = b := ⟨_, rfl⟩
      rw [hb] at C HT HM
      cases b with
      | true =>
        have HR := Lib.hid (HM.out rfl)
        go_wp2_with fail
        with_reducible refine C.out.mono ?_
        rintro e w1 ⟨rfl, rfl⟩
        go_wp2_with fail
        go_ret
        exact ⟨⟨k, rfl, by rw [HR.out]; simp⟩, rfl⟩
      | false =>
        have HR := Lib.hid (HT.out.trans (by rw [hH.out]))
        go_wp2_with fail
        with_reducible refine C.out.mono ?_
        rintro e w1 ⟨rfl, rfl⟩
        go_wp2_with fail
        go_roundw
        case rel => exact ⟨k + 1, by omega, by go_num, trivial, HR⟩
        case measure => simp [intOf]; omega
    · go_wp2_with fail
      go_ret
      have : zs.take k = zs := List.take_of_length_le (by have := HN.out; omega)
      exact ⟨⟨-1, rfl, by have h := hH.out; rw [this] at h; rw [h]; rfl⟩, rfl⟩
theorem stHasI_any (a : Option Addr) (zs : List Int) (m c : Nat) (q b n : Nat) (ks : List Int) (f : Int → Bool) (w : World) (hn : zs.length = m) (hn1 : m ≤ 1000) (hI : IntsAt w a zs) (hb : ∀ z ∈ zs, -100 ≤ z ∧ z ≤ 100) (hq : w.cell? ⟨q, 0, none⟩ = some (.map (some b))) (hV : VI w (.bool false) b n ks (fun k => .bool (f k))) :
    Calls Tryz.prog 39 #[.slice a m c, .func (.func 40) #[] #[.pointer (some ⟨q, 0, none⟩)]] w fun e w' => e = .returned (.bool (zs.any f)) ∧ w = w' := by
  have C := Lib.hid (stIdxI_any a zs m c q b n ks f w hn hn1 hI hb hq hV)
  clear hn hI hq hV hb
  generalize zs.any f = v at *
  go_enter Tryz.func39, Tryz.ntmps39
  go_wp2_with fail
  with_reducible refine C.out.mono ?_
  rintro e w1 ⟨⟨r, rfl, hr⟩, rfl⟩
  have HR := Lib.hid hr
  clear hr
  go_wp2_with fail
  go_ret
  exact ⟨ret_bool HR.out, rfl⟩
set_option maxHeartbeats 4000000 in
/-- count(&r.F, kinds...) -/
theorem stCount_any (rb j N : Nat) (cs : List Value) (a : Option Addr) (zs : List Int) (m c : Nat) (q b n : Nat) (ks : List Int) (f : Int → Bool) (w : World) (hO : OB w rb cs 37) (hj : cs[j]? = some (.int .i64 (N : Int))) (hN : N ≤ 1000000)
    (hn : zs.length = m) (hn1 : m ≤ 1000) (hI : IntsAt w a zs) (hb : ∀ z ∈ zs, -100 ≤ z ∧ z ≤ 100) (hq : w.cell? ⟨q, 0, none⟩ = some (.map (some b))) (hV : VI w (.bool false) b n ks (fun k => .bool (f k))) :
    Calls Tryz.prog 38 #[.pointer (some ⟨rb, j, none⟩), .slice a m c, .pointer (some ⟨q, 0, none⟩)] w fun e w' => e = .returned (.tuple #[]) ∧ OB w' rb (cs.set j (.int .i64 ((N + (if zs.any f = true then 1 else 0) : Nat) : Int))) 37 ∧ w.grownBy w' (some rb) := by
  have C := Lib.hid (stHasI_any a zs m c q b n ks f w hn hn1 hI hb hq hV)
  have y0 := hO.cell j _ hj
  have y1 := hO.free j
  have y2 := hO.lt
  have HO := Lib.hid hO
  have hw : IntKind.i64.wrap ((N : Int) + 1) = (N : Int) + 1 := by rw [IntKind.wrap_i64]; omega
  have HNO : Hid (cs.set j (.int .i64 (N : Int)) = cs) := Lib.hid (by
    obtain ⟨h1, h2⟩ := List.getElem?_eq_some_iff.1 hj
    rw [← h2]
    exact List.set_getElem_self h1)
  clear hn hI hq hV hb hO hj
  obtain ⟨v, hv⟩ : ∃ z, zs.any f = z := ⟨_, rfl⟩
  rw [hv] at C
  rw [hv]
  clear hv
  go_enter Tryz.func38, Tryz.ntmps38
  go_wp2_with fail
  with_reducible refine C.out.mono ?_
  rintro e w1 ⟨rfl, rfl⟩
  cases v with
  | true =>
    have HOn := Lib.hid (HO.out.set j (.int .i64 ((N : Int) + 1)))
    go_wp2_with fail
    refine bodyPost_end (results_none rfl _ _ _) rfl ?_
    exact ⟨rfl, HOn.out, grown_set (p := ⟨rb, j, none⟩) (grownW_same _ (some rb)) (.inl rfl) _⟩
  | false =>
    go_wp2_with fail
    refine bodyPost_end (results_none rfl _ _ _) rfl ?_
    exact ⟨rfl, by show OB w rb (cs.set j (.int .i64 (N : Int))) _; rw [HNO.out]; exact HO.out, grownW_same _ _⟩
end Go.Proofs.YtgdagknjnidmiaaGreatDoor
