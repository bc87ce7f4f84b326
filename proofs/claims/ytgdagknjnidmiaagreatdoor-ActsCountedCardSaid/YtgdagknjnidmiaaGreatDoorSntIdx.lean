/- slices.IndexFunc and ContainsFunc over Sent, by their field id (printed by gen_idx.py). -/
import Derived.Test.YtgdagknjnidmiaaGreatDoorM1
import Derived.Test.YtgdagknjnidmiaaGreatDoorIdx
set_option linter.unusedVariables false
namespace Go.Proofs.YtgdagknjnidmiaaGreatDoor
open Go.RowKit

theorem stOf1_any (x : Snt) (q : Nat) (id : ByteArray) (w : World) (hq : w.cell? ⟨q, 0, none⟩ = some (.string id)) :
    Calls Tryz.prog 36 #[.agg #[.string x.id, .string x.person, .string x.letter, .int .i64 x.at_], .pointer (some ⟨q, 0, none⟩)] w
      fun e w' => e = .returned (.bool (eqS x.id id)) ∧ Below w.heap.size w w' := by
  have hql := World.block_lt_of_cell? w _ hq
  go_enter Tryz.func36, Tryz.ntmps36
  go_wp2_with fail
  go_ret
  refine ⟨ret_bool ?_, (Below.refl _ _).alloc (Nat.le_refl _) _⟩
  rw [Bool.eq_iff_iff, eqS, decide_eq_true_eq]
  simp [Lib.toList_data]

set_option maxRecDepth 100000 in
set_option maxHeartbeats 4000000 in
theorem stOfIdx_any (a : Option Addr) (l : List Snt) (n c q : Nat) (id : ByteArray) (w : World) (hn : l.length = n) (hn1 : n ≤ 1000) (hI : RAt w a 4 Snt.cells l) (hq : w.cell? ⟨q, 0, none⟩ = some (.string id)) :
    Calls Tryz.prog 35 #[.slice a n c, .func (.func 36) #[] #[.pointer (some ⟨q, 0, none⟩)]] w fun e w' => e = .returned (.int .i64 (idxG (l.map Snt.id) id)) ∧ Below w.heap.size w w' := by
  have hql := World.block_lt_of_cell? w _ hq
  have HN := Lib.hid hn
  have HI := Lib.hid hI
  have HQ := Lib.hid hq
  obtain ⟨V, hV⟩ : ∃ V, idxG (l.map Snt.id) id = V := ⟨_, rfl⟩
  rw [hV]
  have HV := Lib.hid hV.symm
  clear hn hI hq hV
  go_enter Tryz.func35, Tryz.ntmps35
  go_wp2_with fail
  go_loopw [5, 8] (fun _ i wr => ∃ k : Nat, k ≤ n ∧ i = .int .i64 k ∧ Below w.heap.size w wr ∧ Hid (V = idxGo ((l.map Snt.id).drop k) id k)) (fun _ i _ => n - (intOf i).toNat)
  case atStart => exact ⟨0, Nat.zero_le _, rfl, Below.refl _ _, HV⟩
  case round =>
    obtain ⟨k, hk, rfl, hB, hH⟩ := hrel
    by_cases hlt : k < n
    · have hkl : k < l.length := by have := HN.out; omega
      obtain ⟨p, off, rfl, hp, c0, c1, c2, c3⟩ := (HI.out.below hB).at4 hkl (v0 := .string l[k].id) (v1 := .string l[k].person) (v2 := .string l[k].letter) (v3 := .int .i64 l[k].at_) rfl
      have hq' := (hB.cell (p := ⟨q, 0, none⟩) hql).trans HQ.out
      have C := Lib.hid (stOf1_any l[k] q id wr hq')
      have HS := Lib.hid (hH.out.trans (idxGo_drop (l.map Snt.id) id k (by rw [List.length_map]; exact hkl)))
      rw [List.getElem_map] at HS
      obtain ⟨b, hb⟩ : ∃ b, eqS l[k].id id = b := ⟨_, rfl⟩
      rw [hb] at C HS
      clear hb hq' hH
      generalize l[k] = x at *
      obtain ⟨xid, xperson, xletter, xat⟩ := x
      simp only at c0 c1 c2 c3 C
      cases b with
      | true =>
        obtain rfl : V = (k : Int) := HS.out.trans (if_pos rfl)
        go_wp2_with fail
        with_reducible refine C.out.mono ?_
        rintro e w1 ⟨rfl, b1⟩
        have HB1 := Lib.hid (hB.trans (b1.mono hB.size))
        go_wp2_with fail
        go_ret
        exact ⟨rfl, HB1.out⟩
      | false =>
        have HR := Lib.hid (HS.out.trans (if_neg (by decide)))
        go_wp2_with fail
        with_reducible refine C.out.mono ?_
        rintro e w1 ⟨rfl, b1⟩
        have HB1 := Lib.hid (hB.trans (b1.mono hB.size))
        go_wp2_with fail
        go_roundw
        case rel => exact ⟨k + 1, by omega, by go_num, HB1.out, HR⟩
        case measure => simp [intOf]; omega
    · have HE := Lib.hid (show V = -1 by rw [hH.out, List.drop_eq_nil_of_le (by rw [List.length_map, HN.out]; omega)]; rfl)
      have HB := Lib.hid hB
      clear hH hB
      go_wp2_with fail
      go_ret
      exact ⟨ret_int HE.out.symm, HB.out⟩
end Go.Proofs.YtgdagknjnidmiaaGreatDoor
