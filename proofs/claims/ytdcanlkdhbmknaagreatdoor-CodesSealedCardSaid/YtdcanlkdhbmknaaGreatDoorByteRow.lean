/- Bytes of a string in a row of one's own, and back; handref1.shifted. -/
import Derived.Test.YtdcanlkdhbmknaaGreatDoorTypedB
import Derived.Test.YtdcanlkdhbmknaaGreatDoorLists
import Derived.Deep.DeepCutAuto
set_option linter.unusedVariables false
namespace Go.Proofs.YtdcanlkdhbmknaaGreatDoor
open Go.RowKit

/-- the bytes of a list as cells -/
def byF (l : List UInt8) (j : Nat) : Value := .int .u8 ((l.getD j 0).toNat : Int)
theorem byF_set (l : List UInt8) (k : Nat) (hk : k < l.length) (b : UInt8) (j : Nat) : (if j = k then .int .u8 (b.toNat : Int) else byF l j) = byF (l.set k b) j := by
  unfold byF
  by_cases e : j = k
  · subst e
    rw [if_pos rfl]
    simp [List.getD_eq_getElem?_getD, List.getElem?_set_self hk]
  · rw [if_neg e]
    simp [List.getD_eq_getElem?_getD, List.getElem?_set_ne (Ne.symm e)]
theorem bytes_row (w : World) (s : ByteArray) (cap : Nat) (t : TypeId) (m : Nat) : RowG (w.alloc (.cells (bytesRow s cap) t ((bytesRow s cap).size, m))) w.heap.size s.size (byF s.data.toList) := by
  have hb := heap_alloc_new w (.cells (bytesRow s cap) t ((bytesRow s cap).size, m))
  refine ⟨by simp, fun j hj => ?_, fun j hj => ?_⟩
  · have hj' : j < s.data.size := hj
    simp only [World.cell?]
    rw [hb]
    simp only [bytesRow]
    rw [Array.getElem?_append_left (by simpa using hj')]
    simp [byF]
    exact ⟨_, Array.getElem?_eq_getElem hj', by rw [Array.getElem?_eq_getElem hj']; rfl⟩
  · have hz : s.size ≤ (bytesRow s cap).size := by
      unfold bytesRow
      simp only [Array.size_append, Array.size_map]
      show s.data.size ≤ _
      omega
    simp only [World.frozen?]
    rw [hb]
    simp
    omega
theorem row_string {w : World} {g c : Nat} {l : List UInt8} (h : RowG w g l.length (byF l)) :
    (convert 48 9 (.slice (some ⟨g, 0, none⟩) l.length c)).run Tryz.prog w = .ok (.string ⟨l.toArray⟩) w :=
  run_convert_bytes_back (P := Tryz.prog) w 48 9 5 ⟨g, 0, none⟩ c l Tryz.underlying48 Tryz.underlying5 Tryz.underlying9 (fun j hj => by
    have e : (Addr.add ⟨g, 0, none⟩ j) = ⟨g, j, none⟩ := by
      unfold Addr.add
      split
      · rename_i h0; subst h0; rfl
      · simp
    rw [e, h.cell j hj]
    simp [byF, List.getD_eq_getElem?_getD, List.getElem?_eq_getElem hj])

/-- a byte shifted from one row of signs to another -/
def shB (a b : List UInt8) (c : UInt8) : UInt8 := if 0 ≤ Lib.indexByte a c then b.getD (Lib.indexByte a c).toNat 0 else c
theorem ixb_lt : ∀ (a : List UInt8) (c : UInt8), Lib.indexByte a c < a.length
  | [], c => by simp [Lib.indexByte]
  | x :: a, c => by
    have := ixb_lt a c
    simp only [Lib.indexByte, List.length_cons]
    split
    · omega
    · split <;> omega
theorem shB_yes {a b : List UInt8} {c : UInt8} (h : 0 ≤ Lib.indexByte a c) (hb : (Lib.indexByte a c).toNat < b.length) : shB a b c = b[(Lib.indexByte a c).toNat] := by
  unfold shB
  rw [if_pos h, List.getD_eq_getElem?_getD, List.getElem?_eq_getElem hb]
  rfl
theorem shB_no {a b : List UInt8} {c : UInt8} (h : ¬ 0 ≤ Lib.indexByte a c) : shB a b c = c := if_neg h
/-- the first k bytes shifted -/
def shL (a b l : List UInt8) (k : Nat) : List UInt8 := (l.take k).map (shB a b) ++ l.drop k
theorem shL_len (a b l : List UInt8) (k : Nat) : (shL a b l k).length = l.length := by
  simp only [shL, List.length_append, List.length_map, List.length_take, List.length_drop]; omega
theorem shL_set (a b l : List UInt8) (k : Nat) (h : k < l.length) : (shL a b l k).set k (shB a b l[k]) = shL a b l (k + 1) := by
  have e1 : ((l.take k).map (shB a b)).length = k := by simp; omega
  unfold shL
  rw [List.set_append_right _ _ (by omega), e1, Nat.sub_self, List.drop_eq_getElem_cons h, List.set_cons_zero, List.take_succ_eq_append_getElem h, List.map_append, List.map_singleton, List.append_assoc]
  rfl
theorem shL_get (a b l : List UInt8) (k : Nat) (h : k < l.length) : (shL a b l k).getD k 0 = l[k] := by
  have e1 : ((l.take k).map (shB a b)).length = k := by simp; omega
  unfold shL
  rw [List.getD_eq_getElem?_getD, List.getElem?_append_right (by omega), e1, Nat.sub_self, List.drop_eq_getElem_cons h]
  rfl
theorem shL_all (a b l : List UInt8) : shL a b l l.length = l.map (shB a b) := by simp [shL]

set_option maxRecDepth 100000 in
set_option maxHeartbeats 4000000 in
theorem shifted_any (s a b : ByteArray) (w : World) (hs : s.size ≤ 1000) (hab : a.size ≤ b.size) (hb : b.size ≤ 1000) :
    Calls Tryz.prog 33 #[.string s, .string a, .string b] w fun e w' => e = .returned (.string ⟨(s.data.toList.map (shB a.data.toList b.data.toList)).toArray⟩) ∧ Below w.heap.size w w' := by
  have hcv := fun w s => run_bytes_of_string (P := Tryz.prog) w 9 48 5 s Tryz.underlying9 Tryz.underlying48 Tryz.underlying5
  have HV := Lib.hid (shL_all a.data.toList b.data.toList s.data.toList)
  have HLL := Lib.hid (byte_len s)
  generalize s.data.toList.map (shB a.data.toList b.data.toList) = V at *
  go_enter Tryz.func33, Tryz.ntmps33
  go_wp2_with fail
  clear hcv
  go_loopw [8, 9, 10, 15] (fun _ _ _ i wr => ∃ k : Nat, k ≤ s.size ∧ i = .int .i64 k ∧ RowG wr w.heap.size s.size (byF (shL a.data.toList b.data.toList s.data.toList k)) ∧ Below w.heap.size w wr) (fun _ _ _ i _ => s.size - (intOf i).toNat)
  case atStart => exact ⟨0, Nat.zero_le _, rfl, bytes_row w.drew s _ _ _, (Below.refl _ _).drew.alloc (Nat.le_refl _) _⟩
  case round =>
    obtain ⟨k, hk, rfl, hrow, hB⟩ := hrel
    by_cases hlt : k < s.size
    · have hc := hrow.cell k hlt
      have hz := hrow.free k hlt
      have hll : k < s.data.toList.length := by rw [byte_len]; exact hlt
      have e0 : byF (shL a.data.toList b.data.toList s.data.toList k) k = .int .u8 (s.data.toList[k].toNat : Int) := by unfold byF; rw [shL_get _ _ _ k hll]
      rw [e0] at hc
      have HE0 := Lib.hid e0
      clear e0
      have HST := Lib.hid (shL_set a.data.toList b.data.toList s.data.toList k hll)
      have HYES := Lib.hid (@shB_yes a.data.toList b.data.toList s.data.toList[k])
      have HNO := Lib.hid (@shB_no a.data.toList b.data.toList s.data.toList[k])
      have hx1 := ixb_lt a.data.toList s.data.toList[k]
      have hx0 := Lib.indexByte_ge a.data.toList s.data.toList[k]
      rw [byte_len] at hx1
      have CI : Hid (∀ w, Calls Tryz.prog 46 #[.string a, .int .u8 (s.data.toList[k].toNat : Int)] w fun e w' => e = .returned (.int .i64 (Lib.indexByte a.data.toList s.data.toList[k])) ∧ w = w') := Lib.hid (fun w => (Tryz.strings_IndexByte a _ w).mono (by
        rintro e w' ⟨rfl, rfl⟩
        exact ⟨by simp, rfl⟩))
      have HRW := Lib.hid hrow
      have HB := Lib.hid hB
      clear hrow hB
      generalize s.data.toList[k] = c at *
      clear hll
      by_cases h0 : 0 ≤ Lib.indexByte a.data.toList c
      · obtain ⟨q, hq⟩ := Int.eq_ofNat_of_zero_le h0
        rw [hq] at hx1 CI
        have hqb : q < b.size := by omega
        have hqt : (Lib.indexByte a.data.toList c).toNat = q := by omega
        have HY := Lib.hid (show shB a.data.toList b.data.toList c = b[q] by
          have hqz : q < b.data.toList.length := by rw [byte_len]; exact hqb
          have e := HYES.out h0 (by rw [hqt]; exact hqz)
          rw [e]
          simp [hqt]
          rfl)
        clear HYES HNO hqt hq h0
        go_wp2_with fail
        with_reducible refine (CI.out _).mono ?_
        rintro e w2 ⟨rfl, rfl⟩
        go_wp2_with fail
        go_roundw
        case rel =>
          refine ⟨k + 1, by omega, by go_num, (HRW.out.set k hlt _).congr (fun j hj => ?_), HB.out.setCell (by simp) _⟩
          rw [← HST.out, HY.out]
          exact byF_set _ k (by rw [shL_len, byte_len]; exact hlt) _ j
        case measure => simp [intOf]; omega
      · have HY := Lib.hid (HNO.out h0)
        have hng : ¬ 0 ≤ Lib.indexByte a.data.toList c := h0
        clear HYES HNO hx1 hx0
        generalize Lib.indexByte a.data.toList c = q at *
        have HRN := Lib.hid (HRW.out.set k hlt (.int .u8 (c.toNat : Int)))
        go_wp2_with fail
        with_reducible refine (CI.out _).mono ?_
        rintro e w2 ⟨rfl, rfl⟩
        go_wp2_with fail
        go_roundw
        case rel =>
          refine ⟨k + 1, by omega, by go_num, HRW.out.congr (fun j hj => ?_), HB.out⟩
          rw [← HST.out, HY.out, ← byF_set _ k (by rw [shL_len, byte_len]; exact hlt) _ j]
          by_cases e : j = k
          · subst e
            rw [if_pos rfl]
            exact HE0.out
          · rw [if_neg e]
        case measure => simp [intOf]; omega
    · obtain rfl : k = s.size := by omega
      have hvl : V.length = s.size := by rw [← HV.out, shL_len, HLL.out]
      have HR : Hid (RowG wr w.heap.size V.length (byF V)) := Lib.hid (by rw [hvl, ← HV.out, HLL.out]; exact hrow)
      have HCV := fun c => row_string (c := c) HR.out
      rw [hvl] at HCV
      have HB := Lib.hid hB
      clear hrow hB hvl
      go_wp2_with fail
      go_ret
      exact ⟨rfl, HB.out⟩
end Go.Proofs.YtdcanlkdhbmknaaGreatDoor
