/- What is wrong with tags: offer.checkTags, handref1.tagsFault (printed by gen_tags.py). -/
import Derived.Test.YtdnikegakcdcnaaDoorTgSpec
import Derived.Test.YtdnikegakcdcnaaDoorLists
import Derived.Test.YtdnikegakcdcnaaDoorKeyOf
set_option linter.unusedVariables false
namespace Go.Proofs.YtdnikegakcdcnaaDoor
open Go.RowKit

theorem getS (l : List ByteArray) (i : Nat) (h : i < l.length) : l.getD i ⟨#[]⟩ = l[i] := by
  rw [List.getD_eq_getElem?_getD, List.getElem?_eq_getElem h]; rfl

set_option maxRecDepth 100000 in
set_option maxHeartbeats 4000000 in
theorem checkTags_any (a : Option Addr) (l : List ByteArray) (n c : Nat) (w : World) (hn : l.length = n) (hn1 : n ≤ 50) (hI : StrsAt w a l) (hs : ∀ x ∈ l, x.size ≤ 1000) :
    Calls Tryd.prog 147 #[.slice a n c] w fun e w' => e = .returned (.int .i64 (tgE l)) ∧ Below w.heap.size w w' := by
  obtain ⟨V, hV⟩ : ∃ V, tgE l = V := ⟨_, rfl⟩
  rw [hV]
  have HV := Lib.hid hV.symm
  unfold tgE at HV
  rw [hn] at HV
  have HN := Lib.hid hn
  have HI := Lib.hid hI
  have HS := Lib.hid hs
  clear hV hn hI hs
  by_cases h10 : 10 < n
  · obtain rfl : V = 2 := HV.out.trans (if_pos h10)
    have hd : decide (10 < n) = true := decide_eq_true h10
    go_enter Tryd.func147, Tryd.ntmps147
    go_wp2_with fail
    go_ret
    exact ⟨rfl, Below.refl _ _⟩
  · have HV0 := Lib.hid (show V = tgGo l (n - 0) 0 from HV.out.trans (if_neg h10))
    have hd : decide (10 < n) = false := decide_eq_false h10
    clear HV
    go_enter Tryd.func147, Tryd.ntmps147
    go_wp2_with fail
    go_loopw [3, 4, 10] (fun _ _ i wr => ∃ k : Nat, k ≤ n ∧ i = .int .i64 k ∧ Below w.heap.size w wr ∧ Hid (V = tgGo l (n - k) k)) (fun _ _ i _ => n - (intOf i).toNat)
    case atStart => exact ⟨0, Nat.zero_le _, rfl, Below.refl _ _, HV0⟩
    case round =>
      obtain ⟨k, hk, rfl, hB, hH⟩ := hrel
      by_cases hlt : k < n
      · have hkl : k < l.length := by have := HN.out; omega
        obtain ⟨p, off, rfl, hp, c0⟩ := (HI.out.below hB) k hkl
        have hks := HS.out l[k] (List.getElem_mem hkl)
        have HST := Lib.hid (show V = if tstepE l k = 0 then tgGo l (n - (k + 1)) (k + 1) else tstepE l k by
          have h := tgGo_step l k hkl
          rw [HN.out] at h
          exact hH.out.trans h)
        have HT := Lib.hid (show tstepE l k = tE (keyB (l.getD k ⟨#[]⟩)) (decide (0 < k) && leS (l.getD k ⟨#[]⟩) (l.getD (k - 1) ⟨#[]⟩)) from rfl)
        rw [getS l k hkl] at HT
        have hprev : 0 < k → ∃ y : ByteArray, l.getD (k - 1) ⟨#[]⟩ = y ∧ wr.cell? ⟨p, off + (k - 1), none⟩ = some (.string y) := fun h0 => by
          obtain ⟨p', off', e, -, hc⟩ := (HI.out.below hB) (k - 1) (by omega)
          injection e with e
          injection e with e1 e2
          subst e1 e2
          exact ⟨_, getS l (k - 1) (by omega), hc⟩
        have HPV := Lib.hid hprev
        have C := Lib.hid (fun w => isKey_any l[k] w (by unfold maxLen; omega))
        obtain ⟨b1, hb1⟩ : ∃ b, keyB l[k] = b := ⟨_, rfl⟩
        rw [hb1] at HT C
        generalize l[k] = x at *
        have HB := Lib.hid hB
        clear hb1 hH hprev
        go_wp2_with fail
        with_reducible refine (C.out _).mono ?_
        rintro e w1 ⟨rfl, rfl⟩
        have HB1 := HB
        cases b1 with
        | false =>
          have HR := Lib.hid (HST.out.trans (show _ = (5 : Int) by rw [HT.out]; simp [tE]))
          go_wp2_with fail
          go_ret
          exact ⟨ret_int HR.out.symm, HB1.out⟩
        | true =>
          by_cases hk0 : k = 0
          · subst hk0
            have HR := Lib.hid (HST.out.trans (show _ = tgGo l (n - (0 + 1)) (0 + 1) by rw [HT.out]; simp [tE]))
            clear c0
            go_wp2_with fail
            go_roundw
            case rel => exact ⟨0 + 1, by omega, by go_num, HB1.out, HR⟩
            case measure => simp [intOf]; omega
          · have hk1 : 0 < k := by omega
            obtain ⟨y, hy, cy⟩ := HPV.out hk1
            rw [hy] at HT
            have cy1 := cy
            have hsp : (Op.bytesLess x.toList y.toList || x.toList == y.toList) = leS x y := rfl
            obtain ⟨b2, hb2⟩ : ∃ b, leS x y = b := ⟨_, rfl⟩
            rw [hb2] at HT hsp
            obtain ⟨i, rfl⟩ : ∃ i, k = i + 1 := ⟨k - 1, by omega⟩
            simp only [Nat.add_sub_cancel] at cy1
            clear hb2 hy cy c0 HPV
            cases b2 with
            | true =>
              have HR := Lib.hid (HST.out.trans (show _ = (7 : Int) by rw [HT.out]; simp [tE]))
              go_wp2_with fail
              go_ret
              exact ⟨ret_int HR.out.symm, HB1.out⟩
            | false =>
              have HR := Lib.hid (HST.out.trans (show _ = tgGo l (n - (i + 1 + 1)) (i + 1 + 1) by rw [HT.out]; simp [tE]))
              go_wp2_with fail
              go_roundw
              case rel => exact ⟨i + 1 + 1, by omega, by go_num, HB1.out, HR⟩
              case measure => simp [intOf]; omega
      · have HE := Lib.hid (hH.out.trans (show _ = (0 : Int) by rw [show n - k = 0 by omega]; rfl))
        have HB := Lib.hid hB
        clear hH hB
        go_wp2_with fail
        go_ret
        exact ⟨ret_int HE.out.symm, HB.out⟩

set_option maxRecDepth 100000 in
set_option maxHeartbeats 4000000 in
theorem tagsFault_any (a : Option Addr) (l : List ByteArray) (n c : Nat) (w : World) (hn : l.length = n) (hn1 : n ≤ 50) (hI : StrsAt w a l) (hs : ∀ x ∈ l, x.size ≤ 1000) :
    Calls Tryd.prog 144 #[.slice a n c] w fun e w' => e = .returned (.int .i64 (tgE l)) ∧ Below w.heap.size w w' := by
  obtain ⟨V, hV⟩ : ∃ V, tgE l = V := ⟨_, rfl⟩
  rw [hV]
  have HV := Lib.hid hV.symm
  unfold tgE at HV
  rw [hn] at HV
  have HN := Lib.hid hn
  have HI := Lib.hid hI
  have HS := Lib.hid hs
  clear hV hn hI hs
  by_cases h10 : 10 < n
  · obtain rfl : V = 2 := HV.out.trans (if_pos h10)
    have hd : decide (10 < n) = true := decide_eq_true h10
    go_enter Tryd.func144, Tryd.ntmps144
    go_wp2_with fail
    go_ret
    exact ⟨rfl, Below.refl _ _⟩
  · have HV0 := Lib.hid (show V = tgGo l (n - 0) 0 from HV.out.trans (if_neg h10))
    have hd : decide (10 < n) = false := decide_eq_false h10
    clear HV
    go_enter Tryd.func144, Tryd.ntmps144
    go_wp2_with fail
    go_loopw [3, 4, 10] (fun _ _ i wr => ∃ k : Nat, k ≤ n ∧ i = .int .i64 k ∧ Below w.heap.size w wr ∧ Hid (V = tgGo l (n - k) k)) (fun _ _ i _ => n - (intOf i).toNat)
    case atStart => exact ⟨0, Nat.zero_le _, rfl, Below.refl _ _, HV0⟩
    case round =>
      obtain ⟨k, hk, rfl, hB, hH⟩ := hrel
      by_cases hlt : k < n
      · have hkl : k < l.length := by have := HN.out; omega
        obtain ⟨p, off, rfl, hp, c0⟩ := (HI.out.below hB) k hkl
        have hks := HS.out l[k] (List.getElem_mem hkl)
        have HST := Lib.hid (show V = if tstepE l k = 0 then tgGo l (n - (k + 1)) (k + 1) else tstepE l k by
          have h := tgGo_step l k hkl
          rw [HN.out] at h
          exact hH.out.trans h)
        have HT := Lib.hid (show tstepE l k = tE (keyB (l.getD k ⟨#[]⟩)) (decide (0 < k) && leS (l.getD k ⟨#[]⟩) (l.getD (k - 1) ⟨#[]⟩)) from rfl)
        rw [getS l k hkl] at HT
        have hprev : 0 < k → ∃ y : ByteArray, l.getD (k - 1) ⟨#[]⟩ = y ∧ wr.cell? ⟨p, off + (k - 1), none⟩ = some (.string y) := fun h0 => by
          obtain ⟨p', off', e, -, hc⟩ := (HI.out.below hB) (k - 1) (by omega)
          injection e with e
          injection e with e1 e2
          subst e1 e2
          exact ⟨_, getS l (k - 1) (by omega), hc⟩
        have HPV := Lib.hid hprev
        have C := Lib.hid (fun w => keyOf_any l[k] w (by unfold maxLen; omega))
        obtain ⟨b1, hb1⟩ : ∃ b, keyB l[k] = b := ⟨_, rfl⟩
        rw [hb1] at HT C
        generalize l[k] = x at *
        have HB := Lib.hid hB
        clear hb1 hH hprev
        go_wp2_with fail
        with_reducible refine (C.out _).mono ?_
        rintro e w1 ⟨rfl, d1⟩
        have hpd := d1.cell (p := ⟨p, off + (k - 1), none⟩) hp
        have HB1 := Lib.hid (HB.out.trans (d1.mono HB.out.size))
        have hp1 : p < w1.heap.size := Nat.lt_of_lt_of_le hp d1.size
        clear d1
        cases b1 with
        | false =>
          have HR := Lib.hid (HST.out.trans (show _ = (5 : Int) by rw [HT.out]; simp [tE]))
          go_wp2_with fail
          go_ret
          exact ⟨ret_int HR.out.symm, HB1.out⟩
        | true =>
          by_cases hk0 : k = 0
          · subst hk0
            have HR := Lib.hid (HST.out.trans (show _ = tgGo l (n - (0 + 1)) (0 + 1) by rw [HT.out]; simp [tE]))
            clear c0
            go_wp2_with fail
            go_roundw
            case rel => exact ⟨0 + 1, by omega, by go_num, HB1.out, HR⟩
            case measure => simp [intOf]; omega
          · have hk1 : 0 < k := by omega
            obtain ⟨y, hy, cy⟩ := HPV.out hk1
            rw [hy] at HT
            have cy1 := hpd.trans cy
            have hsp : (Op.bytesLess x.toList y.toList || x.toList == y.toList) = leS x y := rfl
            obtain ⟨b2, hb2⟩ : ∃ b, leS x y = b := ⟨_, rfl⟩
            rw [hb2] at HT hsp
            obtain ⟨i, rfl⟩ : ∃ i, k = i + 1 := ⟨k - 1, by omega⟩
            simp only [Nat.add_sub_cancel] at cy1
            clear hb2 hy cy c0 HPV
            cases b2 with
            | true =>
              have HR := Lib.hid (HST.out.trans (show _ = (7 : Int) by rw [HT.out]; simp [tE]))
              go_wp2_with fail
              go_ret
              exact ⟨ret_int HR.out.symm, HB1.out⟩
            | false =>
              have HR := Lib.hid (HST.out.trans (show _ = tgGo l (n - (i + 1 + 1)) (i + 1 + 1) by rw [HT.out]; simp [tE]))
              go_wp2_with fail
              go_roundw
              case rel => exact ⟨i + 1 + 1, by omega, by go_num, HB1.out, HR⟩
              case measure => simp [intOf]; omega
      · have HE := Lib.hid (hH.out.trans (show _ = (0 : Int) by rw [show n - k = 0 by omega]; rfl))
        have HB := Lib.hid hB
        clear hH hB
        go_wp2_with fail
        go_ret
        exact ⟨ret_int HE.out.symm, HB.out⟩
end Go.Proofs.YtdnikegakcdcnaaDoor
