/- Words, names and signs of conditions, as the program asks for them. -/
import Derived.Test.YtfdpfkdfglombaaGreatDoorCndP
import Derived.Test.YtfdpfkdfglombaaGreatDoorRecs
set_option linter.unusedVariables false
namespace Go.Proofs.YtfdpfkdfglombaaGreatDoor
open Go.RowKit

theorem hasS_toL (l : List ByteArray) (s : ByteArray) : hasS l s = l.any fun x => s.toList == x.toList := by
  unfold hasS
  congr 1
  funext x
  rw [Bool.eq_iff_iff, decide_eq_true_eq, beq_iff_eq, Lib.toList_data, Lib.toList_data]
  exact ⟨fun h => h.symm, fun h => h.symm⟩
theorem wrd_toL (s : ByteArray) : hasS wrdL s = (s.toList == [97, 108, 108] || s.toList == [110, 111, 110, 101] || s.toList == [97, 110, 100] || s.toList == [111, 114] || s.toList == [110, 111, 116] || s.toList == [104, 97, 115] || s.toList == [105, 110] || s.toList == [98, 101, 103, 105, 110, 115] || s.toList == [99, 111, 110, 116, 97, 105, 110, 115] || s.toList == [99, 111, 117, 110, 116] || s.toList == [115, 117, 109] || s.toList == [115, 105, 110, 99, 101] || s.toList == [116, 104, 101, 110] || s.toList == [119, 104, 101, 114, 101] || s.toList == [119, 105, 116, 104, 105, 110] || s.toList == [100, 97, 121, 115] || s.toList == [104, 111, 117, 114, 115] || s.toList == [109, 105, 110, 117, 116, 101, 115] || s.toList == [121, 101, 115] || s.toList == [110, 111]) := by
  rw [hasS_toL]
  simp only [wrdL, List.any_cons, List.any_nil, Lib.toList_data, Bool.or_false, Bool.or_assoc]
set_option maxRecDepth 100000 in
set_option maxHeartbeats 4000000 in
theorem isWord_any (s : ByteArray) (w : World) : Calls Tryz.prog 194 #[.string s] w fun e w' => e = .returned (.bool (hasS wrdL s)) ∧ w = w' := by
  have HE := Lib.hid (wrd_toL s)
  generalize hasS wrdL s = b at *
  go_enter Tryz.func194, Tryz.ntmps194
  go_wp2
  all_goals first
    | (exfalso; simp_all; done)
    | (go_ret; exact ⟨ret_bool (by rw [HE.out]; simp [*]), rfl⟩)
theorem isName_any (s : ByteArray) (w : World) (hs : s.size ≤ maxLen) : Calls Tryz.prog 139 #[.string s] w fun e w' => e = .returned (.bool (nmB s)) ∧ w = w' := by
  have HE := Lib.hid (show nmB s = (keyB s && !hasS wrdL s) from rfl)
  have C1 := Lib.hid (fun w => isKey_any s w hs)
  have C2 := Lib.hid (fun w => isWord_any s w)
  clear hs
  generalize hasS wrdL s = b at *
  generalize keyB s = k at *
  generalize nmB s = r at *
  cases k with
  | false =>
    go_enter Tryz.func139, Tryz.ntmps139
    go_wp2_with fail
    with_reducible refine (C1.out _).mono ?_
    rintro e w1 ⟨rfl, rfl⟩
    go_wp2
    go_ret
    exact ⟨ret_bool (by rw [HE.out]; rfl), rfl⟩
  | true =>
    go_enter Tryz.func139, Tryz.ntmps139
    go_wp2_with fail
    with_reducible refine (C1.out _).mono ?_
    rintro e w1 ⟨rfl, rfl⟩
    go_wp2_with fail
    with_reducible refine (C2.out _).mono ?_
    rintro e w1 ⟨rfl, rfl⟩
    go_wp2
    go_ret
    exact ⟨ret_bool (by rw [HE.out]; simp), rfl⟩
/-- where a string stands in a list; -1: nowhere -/
def idxS : List ByteArray → ByteArray → Int
  | [], _ => -1
  | x :: r, s => if (s.toList == x.toList) = true then 0 else if idxS r s < 0 then -1 else idxS r s + 1
theorem idxS_bd (l : List ByteArray) (s : ByteArray) : -1 ≤ idxS l s ∧ idxS l s < (l.length : Int) := by
  induction l with
  | nil => simp [idxS]
  | cons x r ih =>
    simp only [idxS, List.length_cons]
    split
    · omega
    · split <;> omega
theorem idxS_neg (l : List ByteArray) (s : ByteArray) : idxS l s < 0 ↔ hasS l s = false := by
  rw [hasS_toL]
  induction l with
  | nil => simp [idxS]
  | cons x r ih =>
    simp only [idxS, List.any_cons]
    cases h : (s.toList == x.toList) with
    | true => simp
    | false =>
      simp only [Bool.false_or, ← ih]
      simp only [Bool.false_eq_true, if_false]
      split <;> omega
theorem idxS_has (l : List ByteArray) (s : ByteArray) : decide (idxS l s < 0) = !hasS l s := by
  have h := idxS_neg l s
  cases h2 : hasS l s with
  | true => rw [h2] at h; simpa using h
  | false => rw [h2] at h; simpa using h
theorem idxS_at (l : List ByteArray) (s : ByteArray) (k : Nat) (h : k < l.length) (h0 : ∀ j (hj : j < k), (s.toList == (l[j]'(by omega)).toList) = false) (h1 : (s.toList == l[k].toList) = true) : idxS l s = (k : Int) := by
  induction l generalizing k with
  | nil => simp at h
  | cons x r ih =>
    cases k with
    | zero =>
      simp only [List.getElem_cons_zero] at h1
      simp [idxS, h1]
    | succ k =>
      have h00 := h0 0 (by omega)
      simp only [List.getElem_cons_zero] at h00
      have := ih k (by simpa using h) (fun j hj => by have := h0 (j + 1) (by omega); simpa using this) (by simpa using h1)
      simp only [idxS, h00, this]
      rw [if_neg (by simp), if_neg (by omega)]
      omega
theorem idxS_no (l : List ByteArray) (s : ByteArray) (h0 : ∀ j (hj : j < l.length), (s.toList == l[j].toList) = false) : idxS l s = -1 := by
  have h := idxS_has l s
  have h2 : hasS l s = false := by
    rw [hasS_toL, List.any_eq_false]
    intro x hx
    obtain ⟨j, hj, rfl⟩ := List.mem_iff_getElem.1 hx
    rw [h0 j hj]; simp
  rw [h2] at h
  have := idxS_bd l s
  simp at h
  omega
def strC (x : ByteArray) : List Value := [.string x]
/-- slices.Index at strings -/
theorem index_any (a : Option Addr) (l : List ByteArray) (n c : Nat) (s : ByteArray) (w : World) (hn : l.length = n) (hm : n ≤ 9223372036854775807) (h : RAt w a 1 strC l) :
    Calls Tryz.prog 111 #[.slice a n c, .string s] w fun e w' => e = .returned (.int .i64 (idxS l s)) ∧ w = w' := by
  have HN := Lib.hid hn
  have HR := Lib.hid h
  clear hn h
  go_enter Tryz.func111, Tryz.ntmps111
  go_wp2_with fail
  go_loop [5, 8] (fun _ i => ∃ k : Nat, k ≤ n ∧ i = .int .i64 k ∧ Hid (∀ j (hj : j < l.length), j < k → (s.toList == l[j].toList) = false)) (fun _ i => n - (intOf i).toNat)
  case atStart => exact ⟨0, Nat.zero_le _, rfl, Lib.hid fun j hj h0 => absurd h0 (by omega)⟩
  case round =>
    obtain ⟨k, hk, rfl, HF⟩ := hrel
    by_cases hlt : k < n
    · have hkl : k < l.length := by have := HN.out; omega
      obtain ⟨p, off, rfl, hp, hc⟩ := HR.out k hkl
      have c0 := hc 0 (.string l[k]) rfl
      clear hc
      rw [Nat.mul_one, Nat.add_zero] at c0
      have HI := Lib.hid (fun h0 h1 => idxS_at l s k hkl h0 h1)
      have HX : Hid (∃ z, z = l[k]) := Lib.hid ⟨_, rfl⟩
      obtain ⟨x, hx⟩ : ∃ z, l[k] = z := ⟨_, rfl⟩
      rw [hx] at c0
      have HXX := Lib.hid hx
      clear hx HX
      by_cases he : (s.toList == x.toList) = true
      · go_wp2_with fail
        go_ret
        exact ⟨ret_int (HI.out (fun j hj => HF.out j (by have := HN.out; omega) hj) (by rw [HXX.out]; exact he)).symm, rfl⟩
      · have he' : (s.toList == x.toList) = false := by simpa using he
        clear he
        go_wp2_with fail
        go_round
        case rel => exact ⟨k + 1, by omega, by go_num, Lib.hid fun j hj h1 => by
          by_cases h2 : j < k
          · exact HF.out j hj h2
          · obtain rfl : j = k := by omega
            rw [HXX.out]; exact he'⟩
        case measure => simp [intOf]; omega
    · have HZ := Lib.hid (fun h0 => idxS_no l s h0)
      go_wp2_with fail
      go_ret
      exact ⟨ret_int (HZ.out (fun j hj => HF.out j hj (by have := HN.out; omega))).symm, rfl⟩
/-- a slice that the call itself has just laid, as records of one string -/
theorem strs_new (w : World) (l : List ByteArray) (cs : Array Value) (t : TypeId) (h : cs = (l.map Value.string).toArray) : RAt (w.alloc (.cells cs t)) (some ⟨w.heap.size, 0, none⟩) 1 strC l := by
  subst h
  refine RAt.block (t := t) ?_ (fun x _ => rfl)
  rw [heap_alloc_new]
  congr 3
  induction l with
  | nil => rfl
  | cons x r ih => simp [strC, List.flatMap_cons] at ih ⊢; exact ih
theorem index_at (l : List ByteArray) (n c p : Nat) (s : ByteArray) (cs : Array Value) (w : World) (hn : l.length = n) (hm : n ≤ 9223372036854775807) (hp : p = w.heap.size) (hcs : cs = (l.map Value.string).toArray) :
    Calls Tryz.prog 111 #[.slice (some ⟨p, 0, none⟩) n c, .string s] (w.alloc (.cells cs 9)) fun e w' => e = .returned (.int .i64 (idxS l s)) ∧ w.alloc (.cells cs 9) = w' := by
  subst hp
  exact index_any _ l n c s _ hn hm (strs_new w l cs 9 hcs)
def SgOut (w : World) (r : Int) (e : Ending) (w' : World) : Prop := e = .returned (.int .i64 r) ∧ Below w.heap.size w w'
theorem signAt_any (s : ByteArray) (w : World) : Calls Tryz.prog 140 #[.string s] w (SgOut w (idxS sgnL s)) := by
  go_enter Tryz.func140, Tryz.ntmps140
  go_wp2_with fail
  with_reducible refine (index_at [⟨#[61]⟩, ⟨#[33, 61]⟩, ⟨#[60]⟩, ⟨#[60, 61]⟩, ⟨#[62]⟩, ⟨#[62, 61]⟩] 6 _ _ _ _ _ rfl (by decide) (by simp) (by simp)).mono ?_
  rintro e w1 ⟨rfl, rfl⟩
  go_wp2
  go_ret
  exact ⟨rfl, (Below.refl _ _).alloc (Nat.le_refl _) _⟩
end Go.Proofs.YtfdpfkdfglombaaGreatDoor
