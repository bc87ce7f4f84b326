/- segment.useOf and segment.formed (printed by gen_usef.py). -/
import Derived.Test.YtfdpfkdfglombaaGreatDoorSgV
set_option linter.unusedVariables false
namespace Go.Proofs.YtfdpfkdfglombaaGreatDoor
open Go.RowKit

/-- what a kind uses, as the program keeps it -/
def usC (k : Int) : List Value := [.bool (uNm k), .bool (uFd k), .bool (uSg k), .bool (uWh k), .bool (uWi k), .bool (uNu k), .int .i64 (loVs k : Int), .int .i64 (hiVs k : Int), .int .i64 (loAs k : Int), .int .i64 (hiAs k : Int)]
def UseO (w : World) (l : List Value) (b : Bool) (e : Ending) (w' : World) : Prop := e = .returned (.tuple #[.agg l.toArray, .bool b]) ∧ Below w.heap.size w w'
set_option maxRecDepth 100000 in
theorem useOf_1 (w : World) : Calls Tryz.prog 137 #[.int .i64 1] w (UseO w (usC 1) true) := by
  rw [show usC 1 = [.bool false, .bool false, .bool false, .bool false, .bool false, .bool false, .int .i64 0, .int .i64 0, .int .i64 0, .int .i64 0] from rfl]
  go_enter Tryz.func137, Tryz.ntmps137
  go_wp2
  exact bodyPost_ret (v := .tuple #[.agg #[.bool false, .bool false, .bool false, .bool false, .bool false, .bool false, .int .i64 0, .int .i64 0, .int .i64 0, .int .i64 0], .bool true]) (by simp [results, Tryz.results137, go_sem]) rfl ⟨rfl, (Below.refl _ _).alloc (Nat.le_refl _) _⟩
set_option maxRecDepth 100000 in
theorem useOf_2 (w : World) : Calls Tryz.prog 137 #[.int .i64 2] w (UseO w (usC 2) true) := by
  rw [show usC 2 = [.bool false, .bool false, .bool false, .bool false, .bool false, .bool false, .int .i64 0, .int .i64 0, .int .i64 0, .int .i64 0] from rfl]
  go_enter Tryz.func137, Tryz.ntmps137
  go_wp2
  exact bodyPost_ret (v := .tuple #[.agg #[.bool false, .bool false, .bool false, .bool false, .bool false, .bool false, .int .i64 0, .int .i64 0, .int .i64 0, .int .i64 0], .bool true]) (by simp [results, Tryz.results137, go_sem]) rfl ⟨rfl, (Below.refl _ _).alloc (Nat.le_refl _) _⟩
set_option maxRecDepth 100000 in
theorem useOf_3 (w : World) : Calls Tryz.prog 137 #[.int .i64 3] w (UseO w (usC 3) true) := by
  rw [show usC 3 = [.bool false, .bool false, .bool false, .bool false, .bool false, .bool false, .int .i64 0, .int .i64 0, .int .i64 2, .int .i64 1073741824] from rfl]
  go_enter Tryz.func137, Tryz.ntmps137
  go_wp2
  exact bodyPost_ret (v := .tuple #[.agg #[.bool false, .bool false, .bool false, .bool false, .bool false, .bool false, .int .i64 0, .int .i64 0, .int .i64 2, .int .i64 1073741824], .bool true]) (by simp [results, Tryz.results137, go_sem]) rfl ⟨rfl, (Below.refl _ _).alloc (Nat.le_refl _) _⟩
set_option maxRecDepth 100000 in
theorem useOf_4 (w : World) : Calls Tryz.prog 137 #[.int .i64 4] w (UseO w (usC 4) true) := by
  rw [show usC 4 = [.bool false, .bool false, .bool false, .bool false, .bool false, .bool false, .int .i64 0, .int .i64 0, .int .i64 2, .int .i64 1073741824] from rfl]
  go_enter Tryz.func137, Tryz.ntmps137
  go_wp2
  exact bodyPost_ret (v := .tuple #[.agg #[.bool false, .bool false, .bool false, .bool false, .bool false, .bool false, .int .i64 0, .int .i64 0, .int .i64 2, .int .i64 1073741824], .bool true]) (by simp [results, Tryz.results137, go_sem]) rfl ⟨rfl, (Below.refl _ _).alloc (Nat.le_refl _) _⟩
set_option maxRecDepth 100000 in
theorem useOf_5 (w : World) : Calls Tryz.prog 137 #[.int .i64 5] w (UseO w (usC 5) true) := by
  rw [show usC 5 = [.bool false, .bool false, .bool false, .bool false, .bool false, .bool false, .int .i64 0, .int .i64 0, .int .i64 1, .int .i64 1] from rfl]
  go_enter Tryz.func137, Tryz.ntmps137
  go_wp2
  exact bodyPost_ret (v := .tuple #[.agg #[.bool false, .bool false, .bool false, .bool false, .bool false, .bool false, .int .i64 0, .int .i64 0, .int .i64 1, .int .i64 1], .bool true]) (by simp [results, Tryz.results137, go_sem]) rfl ⟨rfl, (Below.refl _ _).alloc (Nat.le_refl _) _⟩
set_option maxRecDepth 100000 in
theorem useOf_6 (w : World) : Calls Tryz.prog 137 #[.int .i64 6] w (UseO w (usC 6) true) := by
  rw [show usC 6 = [.bool true, .bool false, .bool false, .bool false, .bool false, .bool false, .int .i64 0, .int .i64 0, .int .i64 0, .int .i64 0] from rfl]
  go_enter Tryz.func137, Tryz.ntmps137
  go_wp2
  exact bodyPost_ret (v := .tuple #[.agg #[.bool true, .bool false, .bool false, .bool false, .bool false, .bool false, .int .i64 0, .int .i64 0, .int .i64 0, .int .i64 0], .bool true]) (by simp [results, Tryz.results137, go_sem]) rfl ⟨rfl, (Below.refl _ _).alloc (Nat.le_refl _) _⟩
set_option maxRecDepth 100000 in
theorem useOf_7 (w : World) : Calls Tryz.prog 137 #[.int .i64 7] w (UseO w (usC 7) true) := by
  rw [show usC 7 = [.bool true, .bool false, .bool true, .bool false, .bool false, .bool false, .int .i64 1, .int .i64 1, .int .i64 0, .int .i64 0] from rfl]
  go_enter Tryz.func137, Tryz.ntmps137
  go_wp2
  exact bodyPost_ret (v := .tuple #[.agg #[.bool true, .bool false, .bool true, .bool false, .bool false, .bool false, .int .i64 1, .int .i64 1, .int .i64 0, .int .i64 0], .bool true]) (by simp [results, Tryz.results137, go_sem]) rfl ⟨rfl, (Below.refl _ _).alloc (Nat.le_refl _) _⟩
set_option maxRecDepth 100000 in
theorem useOf_8 (w : World) : Calls Tryz.prog 137 #[.int .i64 8] w (UseO w (usC 8) true) := by
  rw [show usC 8 = [.bool true, .bool false, .bool false, .bool false, .bool false, .bool false, .int .i64 1, .int .i64 50, .int .i64 0, .int .i64 0] from rfl]
  go_enter Tryz.func137, Tryz.ntmps137
  go_wp2
  exact bodyPost_ret (v := .tuple #[.agg #[.bool true, .bool false, .bool false, .bool false, .bool false, .bool false, .int .i64 1, .int .i64 50, .int .i64 0, .int .i64 0], .bool true]) (by simp [results, Tryz.results137, go_sem]) rfl ⟨rfl, (Below.refl _ _).alloc (Nat.le_refl _) _⟩
set_option maxRecDepth 100000 in
theorem useOf_9 (w : World) : Calls Tryz.prog 137 #[.int .i64 9] w (UseO w (usC 9) true) := by
  rw [show usC 9 = [.bool true, .bool false, .bool false, .bool false, .bool false, .bool false, .int .i64 1, .int .i64 1, .int .i64 0, .int .i64 0] from rfl]
  go_enter Tryz.func137, Tryz.ntmps137
  go_wp2
  exact bodyPost_ret (v := .tuple #[.agg #[.bool true, .bool false, .bool false, .bool false, .bool false, .bool false, .int .i64 1, .int .i64 1, .int .i64 0, .int .i64 0], .bool true]) (by simp [results, Tryz.results137, go_sem]) rfl ⟨rfl, (Below.refl _ _).alloc (Nat.le_refl _) _⟩
set_option maxRecDepth 100000 in
theorem useOf_10 (w : World) : Calls Tryz.prog 137 #[.int .i64 10] w (UseO w (usC 10) true) := by
  rw [show usC 10 = [.bool true, .bool false, .bool false, .bool false, .bool false, .bool false, .int .i64 1, .int .i64 1, .int .i64 0, .int .i64 0] from rfl]
  go_enter Tryz.func137, Tryz.ntmps137
  go_wp2
  exact bodyPost_ret (v := .tuple #[.agg #[.bool true, .bool false, .bool false, .bool false, .bool false, .bool false, .int .i64 1, .int .i64 1, .int .i64 0, .int .i64 0], .bool true]) (by simp [results, Tryz.results137, go_sem]) rfl ⟨rfl, (Below.refl _ _).alloc (Nat.le_refl _) _⟩
set_option maxRecDepth 100000 in
theorem useOf_11 (w : World) : Calls Tryz.prog 137 #[.int .i64 11] w (UseO w (usC 11) true) := by
  rw [show usC 11 = [.bool true, .bool false, .bool true, .bool true, .bool true, .bool true, .int .i64 0, .int .i64 0, .int .i64 0, .int .i64 0] from rfl]
  go_enter Tryz.func137, Tryz.ntmps137
  go_wp2
  exact bodyPost_ret (v := .tuple #[.agg #[.bool true, .bool false, .bool true, .bool true, .bool true, .bool true, .int .i64 0, .int .i64 0, .int .i64 0, .int .i64 0], .bool true]) (by simp [results, Tryz.results137, go_sem]) rfl ⟨rfl, (Below.refl _ _).alloc (Nat.le_refl _) _⟩
set_option maxRecDepth 100000 in
theorem useOf_12 (w : World) : Calls Tryz.prog 137 #[.int .i64 12] w (UseO w (usC 12) true) := by
  rw [show usC 12 = [.bool true, .bool true, .bool true, .bool true, .bool true, .bool true, .int .i64 0, .int .i64 0, .int .i64 0, .int .i64 0] from rfl]
  go_enter Tryz.func137, Tryz.ntmps137
  go_wp2
  exact bodyPost_ret (v := .tuple #[.agg #[.bool true, .bool true, .bool true, .bool true, .bool true, .bool true, .int .i64 0, .int .i64 0, .int .i64 0, .int .i64 0], .bool true]) (by simp [results, Tryz.results137, go_sem]) rfl ⟨rfl, (Below.refl _ _).alloc (Nat.le_refl _) _⟩
set_option maxRecDepth 100000 in
theorem useOf_13 (w : World) : Calls Tryz.prog 137 #[.int .i64 13] w (UseO w (usC 13) true) := by
  rw [show usC 13 = [.bool true, .bool false, .bool true, .bool true, .bool false, .bool true, .int .i64 0, .int .i64 0, .int .i64 0, .int .i64 0] from rfl]
  go_enter Tryz.func137, Tryz.ntmps137
  go_wp2
  exact bodyPost_ret (v := .tuple #[.agg #[.bool true, .bool false, .bool true, .bool true, .bool false, .bool true, .int .i64 0, .int .i64 0, .int .i64 0, .int .i64 0], .bool true]) (by simp [results, Tryz.results137, go_sem]) rfl ⟨rfl, (Below.refl _ _).alloc (Nat.le_refl _) _⟩
set_option maxRecDepth 100000 in
theorem useOf_14 (w : World) : Calls Tryz.prog 137 #[.int .i64 14] w (UseO w (usC 14) true) := by
  rw [show usC 14 = [.bool true, .bool true, .bool false, .bool false, .bool true, .bool false, .int .i64 0, .int .i64 0, .int .i64 0, .int .i64 0] from rfl]
  go_enter Tryz.func137, Tryz.ntmps137
  go_wp2
  exact bodyPost_ret (v := .tuple #[.agg #[.bool true, .bool true, .bool false, .bool false, .bool true, .bool false, .int .i64 0, .int .i64 0, .int .i64 0, .int .i64 0], .bool true]) (by simp [results, Tryz.results137, go_sem]) rfl ⟨rfl, (Below.refl _ _).alloc (Nat.le_refl _) _⟩
set_option maxRecDepth 100000 in
theorem useOf_no (k : Int) (w : World) (h : k < 1 ∨ 14 < k) : Calls Tryz.prog 137 #[.int .i64 k] w (UseO w [.bool false, .bool false, .bool false, .bool false, .bool false, .bool false, .int .i64 0, .int .i64 0, .int .i64 0, .int .i64 0] false) := by
  have b1 : (k == 1) = false := by simp; omega
  have b2 : (k == 2) = false := by simp; omega
  have b3 : (k == 3) = false := by simp; omega
  have b4 : (k == 4) = false := by simp; omega
  have b5 : (k == 5) = false := by simp; omega
  have b6 : (k == 6) = false := by simp; omega
  have b7 : (k == 7) = false := by simp; omega
  have b8 : (k == 8) = false := by simp; omega
  have b9 : (k == 9) = false := by simp; omega
  have b10 : (k == 10) = false := by simp; omega
  have b11 : (k == 11) = false := by simp; omega
  have b12 : (k == 12) = false := by simp; omega
  have b13 : (k == 13) = false := by simp; omega
  have b14 : (k == 14) = false := by simp; omega
  clear h
  go_enter Tryz.func137, Tryz.ntmps137
  go_wp2
  exact bodyPost_ret (v := .tuple #[.agg #[.bool false, .bool false, .bool false, .bool false, .bool false, .bool false, .int .i64 0, .int .i64 0, .int .i64 0, .int .i64 0], .bool false]) (by simp [results, Tryz.results137, go_sem]) rfl ⟨rfl, (Below.refl _ _).alloc (Nat.le_refl _) _⟩
theorem useOf_yes (k : Int) (w : World) (h1 : 1 ≤ k) (h2 : k ≤ 14) : Calls Tryz.prog 137 #[.int .i64 k] w (UseO w (usC k) true) := by
  have : k = 1 ∨ k = 2 ∨ k = 3 ∨ k = 4 ∨ k = 5 ∨ k = 6 ∨ k = 7 ∨ k = 8 ∨ k = 9 ∨ k = 10 ∨ k = 11 ∨ k = 12 ∨ k = 13 ∨ k = 14 := by omega
  rcases this with rfl | rfl | rfl | rfl | rfl | rfl | rfl | rfl | rfl | rfl | rfl | rfl | rfl | rfl
  · exact useOf_1 w
  · exact useOf_2 w
  · exact useOf_3 w
  · exact useOf_4 w
  · exact useOf_5 w
  · exact useOf_6 w
  · exact useOf_7 w
  · exact useOf_8 w
  · exact useOf_9 w
  · exact useOf_10 w
  · exact useOf_11 w
  · exact useOf_12 w
  · exact useOf_13 w
  · exact useOf_14 w
theorem size0_empty (s : ByteArray) : decide (s.size = 0) = s.toList.isEmpty := by
  rw [Lib.toList_data, Bool.eq_iff_iff, decide_eq_true_eq, List.isEmpty_iff]
  constructor
  · intro h
    apply List.eq_nil_of_length_eq_zero
    rw [Array.length_toList]; exact h
  · intro h
    show s.data.size = 0
    rw [← Array.length_toList, h]
    rfl
theorem frm_spell (x : Nd) (na : Nat) : frmB x na = (!((!uNm x.kind && !x.name.toList.isEmpty) || (!uFd x.kind && !x.field.toList.isEmpty) || (!uSg x.kind && !x.sign.toList.isEmpty) || (!uWi x.kind && !(x.within == 0)) || (!uNu x.kind && !(x.number == 0))) &&
    decide (loVs x.kind ≤ x.vals.length ∧ x.vals.length ≤ hiVs x.kind) && decide (loAs x.kind ≤ na ∧ na ≤ hiAs x.kind) && decide (x.whs.length ≤ hiWh x.kind)) := by
  unfold frmB
  rw [size0_empty, size0_empty, size0_empty]
  rfl
theorem swithin_any (n lo hi : Nat) (a b : Int) (w : World) (ha : a = lo) (hb : b = hi) : Calls Tryz.prog 79 #[.int .i64 (n : Int), .int .i64 a, .int .i64 b] w fun e w' => e = .returned (.bool (decide (lo ≤ n ∧ n ≤ hi))) ∧ w = w' := by
  subst ha hb
  by_cases h1 : lo ≤ n
  · have H1 := Lib.hid h1
    have h1' : (lo : Int) ≤ (n : Int) := by omega
    clear h1
    by_cases h2 : n ≤ hi
    · have H2 := Lib.hid h2
      have h2' : (n : Int) ≤ (hi : Int) := by omega
      clear h2
      go_enter Tryz.func79, Tryz.ntmps79
      go_wp2
      go_ret
      exact ⟨ret_bool (by simp [H1.out, H2.out]), rfl⟩
    · have H2 := Lib.hid h2
      have h2' : ¬ (n : Int) ≤ (hi : Int) := by omega
      clear h2
      go_enter Tryz.func79, Tryz.ntmps79
      go_wp2
      go_ret
      exact ⟨ret_bool (by simp; omega), rfl⟩
  · have H1 := Lib.hid h1
    have h1' : ¬ (lo : Int) ≤ (n : Int) := by omega
    clear h1
    go_enter Tryz.func79, Tryz.ntmps79
    go_wp2
    go_ret
    exact ⟨ret_bool (by simp; omega), rfl⟩
theorem whs5 (n : Nat) : (((n : Int) == 0) || decide ((n : Int) ≤ 5)) = decide (n ≤ 5) := by
  rw [Bool.eq_iff_iff]
  simp
  omega
def BoolO (w : World) (b : Bool) (e : Ending) (w' : World) : Prop := e = .returned (.bool b) ∧ Below w.heap.size w w'
set_option maxRecDepth 100000 in
set_option maxHeartbeats 1000000 in
theorem formed_1 (x : Nd) (na : Nat) (w : World) (hk : x.kind = 1) (hw : x.whs.length ≤ 1000) : Calls Tryz.prog 138 #[.agg #[.int .i64 x.kind, .string x.name, .string x.field, .string x.sign, .slice x.va x.vals.length x.vc, .slice x.wa x.whs.length x.wc, .int .i64 x.within, .int .i64 x.number, .slice x.aa na x.ac], .agg #[.bool false, .bool false, .bool false, .bool false, .bool false, .bool false, .int .i64 0, .int .i64 0, .int .i64 0, .int .i64 0]] w (BoolO w (frmB x na)) := by
  have HE := Lib.hid (show frmB x na = (!((!false && !x.name.toList.isEmpty) || (!false && !x.field.toList.isEmpty) || (!false && !x.sign.toList.isEmpty) || (!false && (x.within != 0)) || (!false && (x.number != 0))) && decide (0 ≤ x.vals.length ∧ x.vals.length ≤ 0) && decide (0 ≤ na ∧ na ≤ 0) && decide (x.whs.length ≤ 0)) by rw [frm_spell, hk]; rfl)
  generalize frmB x na = r at *
  have CV := Lib.hid (fun w => swithin_any x.vals.length 0 0 0 0 w rfl rfl)
  have CA := Lib.hid (fun w => swithin_any na 0 0 0 0 w rfl rfl)
  obtain ⟨kind, name, field, sign, va, vc, vals, wa, wc, whs, within, number, aa, ac⟩ := x
  simp only at *
  generalize whs.length = nw at *
  generalize vals.length = nv at *
  generalize decide (0 ≤ nv ∧ nv ≤ 0) = d1 at *
  generalize decide (0 ≤ na ∧ na ≤ 0) = d2 at *
  subst hk
  go_enter Tryz.func138, Tryz.ntmps138
  go_wp2_with fail
  all_goals first
    | (exfalso; clear CV CA HE; simp_all; done)
    | (go_ret; exact ⟨ret_bool (by rw [HE.out]; simp only [*]; simp), ((Below.refl _ _).alloc (Nat.le_refl _) _).alloc (by simp) _⟩)
    | skip
  with_reducible refine (CV.out _).mono ?_
  rintro e w1 ⟨rfl, rfl⟩
  cases d1 with
  | false =>
    go_wp2_with fail
    go_ret
    exact ⟨ret_bool (by rw [HE.out]; simp), ((Below.refl _ _).alloc (Nat.le_refl _) _).alloc (by simp) _⟩
  | true =>
    go_wp2_with fail
    with_reducible refine (CA.out _).mono ?_
    rintro e w1 ⟨rfl, rfl⟩
    cases d2 with
    | false =>
      go_wp2_with fail
      go_ret
      exact ⟨ret_bool (by rw [HE.out]; simp), ((Below.refl _ _).alloc (Nat.le_refl _) _).alloc (by simp) _⟩
    | true =>
      go_wp2_with fail
      all_goals
        go_ret
        exact ⟨ret_bool (by rw [HE.out]; simp [*]; try exact whs5 _), ((Below.refl _ _).alloc (Nat.le_refl _) _).alloc (by simp) _⟩
set_option maxRecDepth 100000 in
set_option maxHeartbeats 1000000 in
theorem formed_2 (x : Nd) (na : Nat) (w : World) (hk : x.kind = 2) (hw : x.whs.length ≤ 1000) : Calls Tryz.prog 138 #[.agg #[.int .i64 x.kind, .string x.name, .string x.field, .string x.sign, .slice x.va x.vals.length x.vc, .slice x.wa x.whs.length x.wc, .int .i64 x.within, .int .i64 x.number, .slice x.aa na x.ac], .agg #[.bool false, .bool false, .bool false, .bool false, .bool false, .bool false, .int .i64 0, .int .i64 0, .int .i64 0, .int .i64 0]] w (BoolO w (frmB x na)) := by
  have HE := Lib.hid (show frmB x na = (!((!false && !x.name.toList.isEmpty) || (!false && !x.field.toList.isEmpty) || (!false && !x.sign.toList.isEmpty) || (!false && (x.within != 0)) || (!false && (x.number != 0))) && decide (0 ≤ x.vals.length ∧ x.vals.length ≤ 0) && decide (0 ≤ na ∧ na ≤ 0) && decide (x.whs.length ≤ 0)) by rw [frm_spell, hk]; rfl)
  generalize frmB x na = r at *
  have CV := Lib.hid (fun w => swithin_any x.vals.length 0 0 0 0 w rfl rfl)
  have CA := Lib.hid (fun w => swithin_any na 0 0 0 0 w rfl rfl)
  obtain ⟨kind, name, field, sign, va, vc, vals, wa, wc, whs, within, number, aa, ac⟩ := x
  simp only at *
  generalize whs.length = nw at *
  generalize vals.length = nv at *
  generalize decide (0 ≤ nv ∧ nv ≤ 0) = d1 at *
  generalize decide (0 ≤ na ∧ na ≤ 0) = d2 at *
  subst hk
  go_enter Tryz.func138, Tryz.ntmps138
  go_wp2_with fail
  all_goals first
    | (exfalso; clear CV CA HE; simp_all; done)
    | (go_ret; exact ⟨ret_bool (by rw [HE.out]; simp only [*]; simp), ((Below.refl _ _).alloc (Nat.le_refl _) _).alloc (by simp) _⟩)
    | skip
  with_reducible refine (CV.out _).mono ?_
  rintro e w1 ⟨rfl, rfl⟩
  cases d1 with
  | false =>
    go_wp2_with fail
    go_ret
    exact ⟨ret_bool (by rw [HE.out]; simp), ((Below.refl _ _).alloc (Nat.le_refl _) _).alloc (by simp) _⟩
  | true =>
    go_wp2_with fail
    with_reducible refine (CA.out _).mono ?_
    rintro e w1 ⟨rfl, rfl⟩
    cases d2 with
    | false =>
      go_wp2_with fail
      go_ret
      exact ⟨ret_bool (by rw [HE.out]; simp), ((Below.refl _ _).alloc (Nat.le_refl _) _).alloc (by simp) _⟩
    | true =>
      go_wp2_with fail
      all_goals
        go_ret
        exact ⟨ret_bool (by rw [HE.out]; simp [*]; try exact whs5 _), ((Below.refl _ _).alloc (Nat.le_refl _) _).alloc (by simp) _⟩
set_option maxRecDepth 100000 in
set_option maxHeartbeats 1000000 in
theorem formed_3 (x : Nd) (na : Nat) (w : World) (hk : x.kind = 3) (hw : x.whs.length ≤ 1000) : Calls Tryz.prog 138 #[.agg #[.int .i64 x.kind, .string x.name, .string x.field, .string x.sign, .slice x.va x.vals.length x.vc, .slice x.wa x.whs.length x.wc, .int .i64 x.within, .int .i64 x.number, .slice x.aa na x.ac], .agg #[.bool false, .bool false, .bool false, .bool false, .bool false, .bool false, .int .i64 0, .int .i64 0, .int .i64 2, .int .i64 1073741824]] w (BoolO w (frmB x na)) := by
  have HE := Lib.hid (show frmB x na = (!((!false && !x.name.toList.isEmpty) || (!false && !x.field.toList.isEmpty) || (!false && !x.sign.toList.isEmpty) || (!false && (x.within != 0)) || (!false && (x.number != 0))) && decide (0 ≤ x.vals.length ∧ x.vals.length ≤ 0) && decide (2 ≤ na ∧ na ≤ 1073741824) && decide (x.whs.length ≤ 0)) by rw [frm_spell, hk]; rfl)
  generalize frmB x na = r at *
  have CV := Lib.hid (fun w => swithin_any x.vals.length 0 0 0 0 w rfl rfl)
  have CA := Lib.hid (fun w => swithin_any na 2 1073741824 2 1073741824 w rfl rfl)
  obtain ⟨kind, name, field, sign, va, vc, vals, wa, wc, whs, within, number, aa, ac⟩ := x
  simp only at *
  generalize whs.length = nw at *
  generalize vals.length = nv at *
  generalize decide (0 ≤ nv ∧ nv ≤ 0) = d1 at *
  generalize decide (2 ≤ na ∧ na ≤ 1073741824) = d2 at *
  subst hk
  go_enter Tryz.func138, Tryz.ntmps138
  go_wp2_with fail
  all_goals first
    | (exfalso; clear CV CA HE; simp_all; done)
    | (go_ret; exact ⟨ret_bool (by rw [HE.out]; simp only [*]; simp), ((Below.refl _ _).alloc (Nat.le_refl _) _).alloc (by simp) _⟩)
    | skip
  with_reducible refine (CV.out _).mono ?_
  rintro e w1 ⟨rfl, rfl⟩
  cases d1 with
  | false =>
    go_wp2_with fail
    go_ret
    exact ⟨ret_bool (by rw [HE.out]; simp), ((Below.refl _ _).alloc (Nat.le_refl _) _).alloc (by simp) _⟩
  | true =>
    go_wp2_with fail
    with_reducible refine (CA.out _).mono ?_
    rintro e w1 ⟨rfl, rfl⟩
    cases d2 with
    | false =>
      go_wp2_with fail
      go_ret
      exact ⟨ret_bool (by rw [HE.out]; simp), ((Below.refl _ _).alloc (Nat.le_refl _) _).alloc (by simp) _⟩
    | true =>
      go_wp2_with fail
      all_goals
        go_ret
        exact ⟨ret_bool (by rw [HE.out]; simp [*]; try exact whs5 _), ((Below.refl _ _).alloc (Nat.le_refl _) _).alloc (by simp) _⟩
set_option maxRecDepth 100000 in
set_option maxHeartbeats 1000000 in
theorem formed_4 (x : Nd) (na : Nat) (w : World) (hk : x.kind = 4) (hw : x.whs.length ≤ 1000) : Calls Tryz.prog 138 #[.agg #[.int .i64 x.kind, .string x.name, .string x.field, .string x.sign, .slice x.va x.vals.length x.vc, .slice x.wa x.whs.length x.wc, .int .i64 x.within, .int .i64 x.number, .slice x.aa na x.ac], .agg #[.bool false, .bool false, .bool false, .bool false, .bool false, .bool false, .int .i64 0, .int .i64 0, .int .i64 2, .int .i64 1073741824]] w (BoolO w (frmB x na)) := by
  have HE := Lib.hid (show frmB x na = (!((!false && !x.name.toList.isEmpty) || (!false && !x.field.toList.isEmpty) || (!false && !x.sign.toList.isEmpty) || (!false && (x.within != 0)) || (!false && (x.number != 0))) && decide (0 ≤ x.vals.length ∧ x.vals.length ≤ 0) && decide (2 ≤ na ∧ na ≤ 1073741824) && decide (x.whs.length ≤ 0)) by rw [frm_spell, hk]; rfl)
  generalize frmB x na = r at *
  have CV := Lib.hid (fun w => swithin_any x.vals.length 0 0 0 0 w rfl rfl)
  have CA := Lib.hid (fun w => swithin_any na 2 1073741824 2 1073741824 w rfl rfl)
  obtain ⟨kind, name, field, sign, va, vc, vals, wa, wc, whs, within, number, aa, ac⟩ := x
  simp only at *
  generalize whs.length = nw at *
  generalize vals.length = nv at *
  generalize decide (0 ≤ nv ∧ nv ≤ 0) = d1 at *
  generalize decide (2 ≤ na ∧ na ≤ 1073741824) = d2 at *
  subst hk
  go_enter Tryz.func138, Tryz.ntmps138
  go_wp2_with fail
  all_goals first
    | (exfalso; clear CV CA HE; simp_all; done)
    | (go_ret; exact ⟨ret_bool (by rw [HE.out]; simp only [*]; simp), ((Below.refl _ _).alloc (Nat.le_refl _) _).alloc (by simp) _⟩)
    | skip
  with_reducible refine (CV.out _).mono ?_
  rintro e w1 ⟨rfl, rfl⟩
  cases d1 with
  | false =>
    go_wp2_with fail
    go_ret
    exact ⟨ret_bool (by rw [HE.out]; simp), ((Below.refl _ _).alloc (Nat.le_refl _) _).alloc (by simp) _⟩
  | true =>
    go_wp2_with fail
    with_reducible refine (CA.out _).mono ?_
    rintro e w1 ⟨rfl, rfl⟩
    cases d2 with
    | false =>
      go_wp2_with fail
      go_ret
      exact ⟨ret_bool (by rw [HE.out]; simp), ((Below.refl _ _).alloc (Nat.le_refl _) _).alloc (by simp) _⟩
    | true =>
      go_wp2_with fail
      all_goals
        go_ret
        exact ⟨ret_bool (by rw [HE.out]; simp [*]; try exact whs5 _), ((Below.refl _ _).alloc (Nat.le_refl _) _).alloc (by simp) _⟩
set_option maxRecDepth 100000 in
set_option maxHeartbeats 1000000 in
theorem formed_5 (x : Nd) (na : Nat) (w : World) (hk : x.kind = 5) (hw : x.whs.length ≤ 1000) : Calls Tryz.prog 138 #[.agg #[.int .i64 x.kind, .string x.name, .string x.field, .string x.sign, .slice x.va x.vals.length x.vc, .slice x.wa x.whs.length x.wc, .int .i64 x.within, .int .i64 x.number, .slice x.aa na x.ac], .agg #[.bool false, .bool false, .bool false, .bool false, .bool false, .bool false, .int .i64 0, .int .i64 0, .int .i64 1, .int .i64 1]] w (BoolO w (frmB x na)) := by
  have HE := Lib.hid (show frmB x na = (!((!false && !x.name.toList.isEmpty) || (!false && !x.field.toList.isEmpty) || (!false && !x.sign.toList.isEmpty) || (!false && (x.within != 0)) || (!false && (x.number != 0))) && decide (0 ≤ x.vals.length ∧ x.vals.length ≤ 0) && decide (1 ≤ na ∧ na ≤ 1) && decide (x.whs.length ≤ 0)) by rw [frm_spell, hk]; rfl)
  generalize frmB x na = r at *
  have CV := Lib.hid (fun w => swithin_any x.vals.length 0 0 0 0 w rfl rfl)
  have CA := Lib.hid (fun w => swithin_any na 1 1 1 1 w rfl rfl)
  obtain ⟨kind, name, field, sign, va, vc, vals, wa, wc, whs, within, number, aa, ac⟩ := x
  simp only at *
  generalize whs.length = nw at *
  generalize vals.length = nv at *
  generalize decide (0 ≤ nv ∧ nv ≤ 0) = d1 at *
  generalize decide (1 ≤ na ∧ na ≤ 1) = d2 at *
  subst hk
  go_enter Tryz.func138, Tryz.ntmps138
  go_wp2_with fail
  all_goals first
    | (exfalso; clear CV CA HE; simp_all; done)
    | (go_ret; exact ⟨ret_bool (by rw [HE.out]; simp only [*]; simp), ((Below.refl _ _).alloc (Nat.le_refl _) _).alloc (by simp) _⟩)
    | skip
  with_reducible refine (CV.out _).mono ?_
  rintro e w1 ⟨rfl, rfl⟩
  cases d1 with
  | false =>
    go_wp2_with fail
    go_ret
    exact ⟨ret_bool (by rw [HE.out]; simp), ((Below.refl _ _).alloc (Nat.le_refl _) _).alloc (by simp) _⟩
  | true =>
    go_wp2_with fail
    with_reducible refine (CA.out _).mono ?_
    rintro e w1 ⟨rfl, rfl⟩
    cases d2 with
    | false =>
      go_wp2_with fail
      go_ret
      exact ⟨ret_bool (by rw [HE.out]; simp), ((Below.refl _ _).alloc (Nat.le_refl _) _).alloc (by simp) _⟩
    | true =>
      go_wp2_with fail
      all_goals
        go_ret
        exact ⟨ret_bool (by rw [HE.out]; simp [*]; try exact whs5 _), ((Below.refl _ _).alloc (Nat.le_refl _) _).alloc (by simp) _⟩
set_option maxRecDepth 100000 in
set_option maxHeartbeats 1000000 in
theorem formed_6 (x : Nd) (na : Nat) (w : World) (hk : x.kind = 6) (hw : x.whs.length ≤ 1000) : Calls Tryz.prog 138 #[.agg #[.int .i64 x.kind, .string x.name, .string x.field, .string x.sign, .slice x.va x.vals.length x.vc, .slice x.wa x.whs.length x.wc, .int .i64 x.within, .int .i64 x.number, .slice x.aa na x.ac], .agg #[.bool true, .bool false, .bool false, .bool false, .bool false, .bool false, .int .i64 0, .int .i64 0, .int .i64 0, .int .i64 0]] w (BoolO w (frmB x na)) := by
  have HE := Lib.hid (show frmB x na = (!((!true && !x.name.toList.isEmpty) || (!false && !x.field.toList.isEmpty) || (!false && !x.sign.toList.isEmpty) || (!false && (x.within != 0)) || (!false && (x.number != 0))) && decide (0 ≤ x.vals.length ∧ x.vals.length ≤ 0) && decide (0 ≤ na ∧ na ≤ 0) && decide (x.whs.length ≤ 0)) by rw [frm_spell, hk]; rfl)
  generalize frmB x na = r at *
  have CV := Lib.hid (fun w => swithin_any x.vals.length 0 0 0 0 w rfl rfl)
  have CA := Lib.hid (fun w => swithin_any na 0 0 0 0 w rfl rfl)
  obtain ⟨kind, name, field, sign, va, vc, vals, wa, wc, whs, within, number, aa, ac⟩ := x
  simp only at *
  generalize whs.length = nw at *
  generalize vals.length = nv at *
  generalize decide (0 ≤ nv ∧ nv ≤ 0) = d1 at *
  generalize decide (0 ≤ na ∧ na ≤ 0) = d2 at *
  subst hk
  go_enter Tryz.func138, Tryz.ntmps138
  go_wp2_with fail
  all_goals first
    | (exfalso; clear CV CA HE; simp_all; done)
    | (go_ret; exact ⟨ret_bool (by rw [HE.out]; simp only [*]; simp), ((Below.refl _ _).alloc (Nat.le_refl _) _).alloc (by simp) _⟩)
    | skip
  with_reducible refine (CV.out _).mono ?_
  rintro e w1 ⟨rfl, rfl⟩
  cases d1 with
  | false =>
    go_wp2_with fail
    go_ret
    exact ⟨ret_bool (by rw [HE.out]; simp), ((Below.refl _ _).alloc (Nat.le_refl _) _).alloc (by simp) _⟩
  | true =>
    go_wp2_with fail
    with_reducible refine (CA.out _).mono ?_
    rintro e w1 ⟨rfl, rfl⟩
    cases d2 with
    | false =>
      go_wp2_with fail
      go_ret
      exact ⟨ret_bool (by rw [HE.out]; simp), ((Below.refl _ _).alloc (Nat.le_refl _) _).alloc (by simp) _⟩
    | true =>
      go_wp2_with fail
      all_goals
        go_ret
        exact ⟨ret_bool (by rw [HE.out]; simp [*]; try exact whs5 _), ((Below.refl _ _).alloc (Nat.le_refl _) _).alloc (by simp) _⟩
set_option maxRecDepth 100000 in
set_option maxHeartbeats 1000000 in
theorem formed_7 (x : Nd) (na : Nat) (w : World) (hk : x.kind = 7) (hw : x.whs.length ≤ 1000) : Calls Tryz.prog 138 #[.agg #[.int .i64 x.kind, .string x.name, .string x.field, .string x.sign, .slice x.va x.vals.length x.vc, .slice x.wa x.whs.length x.wc, .int .i64 x.within, .int .i64 x.number, .slice x.aa na x.ac], .agg #[.bool true, .bool false, .bool true, .bool false, .bool false, .bool false, .int .i64 1, .int .i64 1, .int .i64 0, .int .i64 0]] w (BoolO w (frmB x na)) := by
  have HE := Lib.hid (show frmB x na = (!((!true && !x.name.toList.isEmpty) || (!false && !x.field.toList.isEmpty) || (!true && !x.sign.toList.isEmpty) || (!false && (x.within != 0)) || (!false && (x.number != 0))) && decide (1 ≤ x.vals.length ∧ x.vals.length ≤ 1) && decide (0 ≤ na ∧ na ≤ 0) && decide (x.whs.length ≤ 0)) by rw [frm_spell, hk]; rfl)
  generalize frmB x na = r at *
  have CV := Lib.hid (fun w => swithin_any x.vals.length 1 1 1 1 w rfl rfl)
  have CA := Lib.hid (fun w => swithin_any na 0 0 0 0 w rfl rfl)
  obtain ⟨kind, name, field, sign, va, vc, vals, wa, wc, whs, within, number, aa, ac⟩ := x
  simp only at *
  generalize whs.length = nw at *
  generalize vals.length = nv at *
  generalize decide (1 ≤ nv ∧ nv ≤ 1) = d1 at *
  generalize decide (0 ≤ na ∧ na ≤ 0) = d2 at *
  subst hk
  go_enter Tryz.func138, Tryz.ntmps138
  go_wp2_with fail
  all_goals first
    | (exfalso; clear CV CA HE; simp_all; done)
    | (go_ret; exact ⟨ret_bool (by rw [HE.out]; simp only [*]; simp), ((Below.refl _ _).alloc (Nat.le_refl _) _).alloc (by simp) _⟩)
    | skip
  with_reducible refine (CV.out _).mono ?_
  rintro e w1 ⟨rfl, rfl⟩
  cases d1 with
  | false =>
    go_wp2_with fail
    go_ret
    exact ⟨ret_bool (by rw [HE.out]; simp), ((Below.refl _ _).alloc (Nat.le_refl _) _).alloc (by simp) _⟩
  | true =>
    go_wp2_with fail
    with_reducible refine (CA.out _).mono ?_
    rintro e w1 ⟨rfl, rfl⟩
    cases d2 with
    | false =>
      go_wp2_with fail
      go_ret
      exact ⟨ret_bool (by rw [HE.out]; simp), ((Below.refl _ _).alloc (Nat.le_refl _) _).alloc (by simp) _⟩
    | true =>
      go_wp2_with fail
      all_goals
        go_ret
        exact ⟨ret_bool (by rw [HE.out]; simp [*]; try exact whs5 _), ((Below.refl _ _).alloc (Nat.le_refl _) _).alloc (by simp) _⟩
set_option maxRecDepth 100000 in
set_option maxHeartbeats 1000000 in
theorem formed_8 (x : Nd) (na : Nat) (w : World) (hk : x.kind = 8) (hw : x.whs.length ≤ 1000) : Calls Tryz.prog 138 #[.agg #[.int .i64 x.kind, .string x.name, .string x.field, .string x.sign, .slice x.va x.vals.length x.vc, .slice x.wa x.whs.length x.wc, .int .i64 x.within, .int .i64 x.number, .slice x.aa na x.ac], .agg #[.bool true, .bool false, .bool false, .bool false, .bool false, .bool false, .int .i64 1, .int .i64 50, .int .i64 0, .int .i64 0]] w (BoolO w (frmB x na)) := by
  have HE := Lib.hid (show frmB x na = (!((!true && !x.name.toList.isEmpty) || (!false && !x.field.toList.isEmpty) || (!false && !x.sign.toList.isEmpty) || (!false && (x.within != 0)) || (!false && (x.number != 0))) && decide (1 ≤ x.vals.length ∧ x.vals.length ≤ 50) && decide (0 ≤ na ∧ na ≤ 0) && decide (x.whs.length ≤ 0)) by rw [frm_spell, hk]; rfl)
  generalize frmB x na = r at *
  have CV := Lib.hid (fun w => swithin_any x.vals.length 1 50 1 50 w rfl rfl)
  have CA := Lib.hid (fun w => swithin_any na 0 0 0 0 w rfl rfl)
  obtain ⟨kind, name, field, sign, va, vc, vals, wa, wc, whs, within, number, aa, ac⟩ := x
  simp only at *
  generalize whs.length = nw at *
  generalize vals.length = nv at *
  generalize decide (1 ≤ nv ∧ nv ≤ 50) = d1 at *
  generalize decide (0 ≤ na ∧ na ≤ 0) = d2 at *
  subst hk
  go_enter Tryz.func138, Tryz.ntmps138
  go_wp2_with fail
  all_goals first
    | (exfalso; clear CV CA HE; simp_all; done)
    | (go_ret; exact ⟨ret_bool (by rw [HE.out]; simp only [*]; simp), ((Below.refl _ _).alloc (Nat.le_refl _) _).alloc (by simp) _⟩)
    | skip
  with_reducible refine (CV.out _).mono ?_
  rintro e w1 ⟨rfl, rfl⟩
  cases d1 with
  | false =>
    go_wp2_with fail
    go_ret
    exact ⟨ret_bool (by rw [HE.out]; simp), ((Below.refl _ _).alloc (Nat.le_refl _) _).alloc (by simp) _⟩
  | true =>
    go_wp2_with fail
    with_reducible refine (CA.out _).mono ?_
    rintro e w1 ⟨rfl, rfl⟩
    cases d2 with
    | false =>
      go_wp2_with fail
      go_ret
      exact ⟨ret_bool (by rw [HE.out]; simp), ((Below.refl _ _).alloc (Nat.le_refl _) _).alloc (by simp) _⟩
    | true =>
      go_wp2_with fail
      all_goals
        go_ret
        exact ⟨ret_bool (by rw [HE.out]; simp [*]; try exact whs5 _), ((Below.refl _ _).alloc (Nat.le_refl _) _).alloc (by simp) _⟩
set_option maxRecDepth 100000 in
set_option maxHeartbeats 1000000 in
theorem formed_9 (x : Nd) (na : Nat) (w : World) (hk : x.kind = 9) (hw : x.whs.length ≤ 1000) : Calls Tryz.prog 138 #[.agg #[.int .i64 x.kind, .string x.name, .string x.field, .string x.sign, .slice x.va x.vals.length x.vc, .slice x.wa x.whs.length x.wc, .int .i64 x.within, .int .i64 x.number, .slice x.aa na x.ac], .agg #[.bool true, .bool false, .bool false, .bool false, .bool false, .bool false, .int .i64 1, .int .i64 1, .int .i64 0, .int .i64 0]] w (BoolO w (frmB x na)) := by
  have HE := Lib.hid (show frmB x na = (!((!true && !x.name.toList.isEmpty) || (!false && !x.field.toList.isEmpty) || (!false && !x.sign.toList.isEmpty) || (!false && (x.within != 0)) || (!false && (x.number != 0))) && decide (1 ≤ x.vals.length ∧ x.vals.length ≤ 1) && decide (0 ≤ na ∧ na ≤ 0) && decide (x.whs.length ≤ 0)) by rw [frm_spell, hk]; rfl)
  generalize frmB x na = r at *
  have CV := Lib.hid (fun w => swithin_any x.vals.length 1 1 1 1 w rfl rfl)
  have CA := Lib.hid (fun w => swithin_any na 0 0 0 0 w rfl rfl)
  obtain ⟨kind, name, field, sign, va, vc, vals, wa, wc, whs, within, number, aa, ac⟩ := x
  simp only at *
  generalize whs.length = nw at *
  generalize vals.length = nv at *
  generalize decide (1 ≤ nv ∧ nv ≤ 1) = d1 at *
  generalize decide (0 ≤ na ∧ na ≤ 0) = d2 at *
  subst hk
  go_enter Tryz.func138, Tryz.ntmps138
  go_wp2_with fail
  all_goals first
    | (exfalso; clear CV CA HE; simp_all; done)
    | (go_ret; exact ⟨ret_bool (by rw [HE.out]; simp only [*]; simp), ((Below.refl _ _).alloc (Nat.le_refl _) _).alloc (by simp) _⟩)
    | skip
  with_reducible refine (CV.out _).mono ?_
  rintro e w1 ⟨rfl, rfl⟩
  cases d1 with
  | false =>
    go_wp2_with fail
    go_ret
    exact ⟨ret_bool (by rw [HE.out]; simp), ((Below.refl _ _).alloc (Nat.le_refl _) _).alloc (by simp) _⟩
  | true =>
    go_wp2_with fail
    with_reducible refine (CA.out _).mono ?_
    rintro e w1 ⟨rfl, rfl⟩
    cases d2 with
    | false =>
      go_wp2_with fail
      go_ret
      exact ⟨ret_bool (by rw [HE.out]; simp), ((Below.refl _ _).alloc (Nat.le_refl _) _).alloc (by simp) _⟩
    | true =>
      go_wp2_with fail
      all_goals
        go_ret
        exact ⟨ret_bool (by rw [HE.out]; simp [*]; try exact whs5 _), ((Below.refl _ _).alloc (Nat.le_refl _) _).alloc (by simp) _⟩
set_option maxRecDepth 100000 in
set_option maxHeartbeats 1000000 in
theorem formed_10 (x : Nd) (na : Nat) (w : World) (hk : x.kind = 10) (hw : x.whs.length ≤ 1000) : Calls Tryz.prog 138 #[.agg #[.int .i64 x.kind, .string x.name, .string x.field, .string x.sign, .slice x.va x.vals.length x.vc, .slice x.wa x.whs.length x.wc, .int .i64 x.within, .int .i64 x.number, .slice x.aa na x.ac], .agg #[.bool true, .bool false, .bool false, .bool false, .bool false, .bool false, .int .i64 1, .int .i64 1, .int .i64 0, .int .i64 0]] w (BoolO w (frmB x na)) := by
  have HE := Lib.hid (show frmB x na = (!((!true && !x.name.toList.isEmpty) || (!false && !x.field.toList.isEmpty) || (!false && !x.sign.toList.isEmpty) || (!false && (x.within != 0)) || (!false && (x.number != 0))) && decide (1 ≤ x.vals.length ∧ x.vals.length ≤ 1) && decide (0 ≤ na ∧ na ≤ 0) && decide (x.whs.length ≤ 0)) by rw [frm_spell, hk]; rfl)
  generalize frmB x na = r at *
  have CV := Lib.hid (fun w => swithin_any x.vals.length 1 1 1 1 w rfl rfl)
  have CA := Lib.hid (fun w => swithin_any na 0 0 0 0 w rfl rfl)
  obtain ⟨kind, name, field, sign, va, vc, vals, wa, wc, whs, within, number, aa, ac⟩ := x
  simp only at *
  generalize whs.length = nw at *
  generalize vals.length = nv at *
  generalize decide (1 ≤ nv ∧ nv ≤ 1) = d1 at *
  generalize decide (0 ≤ na ∧ na ≤ 0) = d2 at *
  subst hk
  go_enter Tryz.func138, Tryz.ntmps138
  go_wp2_with fail
  all_goals first
    | (exfalso; clear CV CA HE; simp_all; done)
    | (go_ret; exact ⟨ret_bool (by rw [HE.out]; simp only [*]; simp), ((Below.refl _ _).alloc (Nat.le_refl _) _).alloc (by simp) _⟩)
    | skip
  with_reducible refine (CV.out _).mono ?_
  rintro e w1 ⟨rfl, rfl⟩
  cases d1 with
  | false =>
    go_wp2_with fail
    go_ret
    exact ⟨ret_bool (by rw [HE.out]; simp), ((Below.refl _ _).alloc (Nat.le_refl _) _).alloc (by simp) _⟩
  | true =>
    go_wp2_with fail
    with_reducible refine (CA.out _).mono ?_
    rintro e w1 ⟨rfl, rfl⟩
    cases d2 with
    | false =>
      go_wp2_with fail
      go_ret
      exact ⟨ret_bool (by rw [HE.out]; simp), ((Below.refl _ _).alloc (Nat.le_refl _) _).alloc (by simp) _⟩
    | true =>
      go_wp2_with fail
      all_goals
        go_ret
        exact ⟨ret_bool (by rw [HE.out]; simp [*]; try exact whs5 _), ((Below.refl _ _).alloc (Nat.le_refl _) _).alloc (by simp) _⟩
set_option maxRecDepth 100000 in
set_option maxHeartbeats 1000000 in
theorem formed_11 (x : Nd) (na : Nat) (w : World) (hk : x.kind = 11) (hw : x.whs.length ≤ 1000) : Calls Tryz.prog 138 #[.agg #[.int .i64 x.kind, .string x.name, .string x.field, .string x.sign, .slice x.va x.vals.length x.vc, .slice x.wa x.whs.length x.wc, .int .i64 x.within, .int .i64 x.number, .slice x.aa na x.ac], .agg #[.bool true, .bool false, .bool true, .bool true, .bool true, .bool true, .int .i64 0, .int .i64 0, .int .i64 0, .int .i64 0]] w (BoolO w (frmB x na)) := by
  have HE := Lib.hid (show frmB x na = (!((!true && !x.name.toList.isEmpty) || (!false && !x.field.toList.isEmpty) || (!true && !x.sign.toList.isEmpty) || (!true && (x.within != 0)) || (!true && (x.number != 0))) && decide (0 ≤ x.vals.length ∧ x.vals.length ≤ 0) && decide (0 ≤ na ∧ na ≤ 0) && decide (x.whs.length ≤ 5)) by rw [frm_spell, hk]; rfl)
  generalize frmB x na = r at *
  have CV := Lib.hid (fun w => swithin_any x.vals.length 0 0 0 0 w rfl rfl)
  have CA := Lib.hid (fun w => swithin_any na 0 0 0 0 w rfl rfl)
  obtain ⟨kind, name, field, sign, va, vc, vals, wa, wc, whs, within, number, aa, ac⟩ := x
  simp only at *
  generalize whs.length = nw at *
  generalize vals.length = nv at *
  generalize decide (0 ≤ nv ∧ nv ≤ 0) = d1 at *
  generalize decide (0 ≤ na ∧ na ≤ 0) = d2 at *
  subst hk
  go_enter Tryz.func138, Tryz.ntmps138
  go_wp2_with fail
  all_goals first
    | (exfalso; clear CV CA HE; simp_all; done)
    | (go_ret; exact ⟨ret_bool (by rw [HE.out]; simp only [*]; simp), ((Below.refl _ _).alloc (Nat.le_refl _) _).alloc (by simp) _⟩)
    | skip
  with_reducible refine (CV.out _).mono ?_
  rintro e w1 ⟨rfl, rfl⟩
  cases d1 with
  | false =>
    go_wp2_with fail
    go_ret
    exact ⟨ret_bool (by rw [HE.out]; simp), ((Below.refl _ _).alloc (Nat.le_refl _) _).alloc (by simp) _⟩
  | true =>
    go_wp2_with fail
    with_reducible refine (CA.out _).mono ?_
    rintro e w1 ⟨rfl, rfl⟩
    cases d2 with
    | false =>
      go_wp2_with fail
      go_ret
      exact ⟨ret_bool (by rw [HE.out]; simp), ((Below.refl _ _).alloc (Nat.le_refl _) _).alloc (by simp) _⟩
    | true =>
      go_wp2_with fail
      all_goals
        go_ret
        exact ⟨ret_bool (by rw [HE.out]; simp [*]; try exact whs5 _), ((Below.refl _ _).alloc (Nat.le_refl _) _).alloc (by simp) _⟩
set_option maxRecDepth 100000 in
set_option maxHeartbeats 1000000 in
theorem formed_12 (x : Nd) (na : Nat) (w : World) (hk : x.kind = 12) (hw : x.whs.length ≤ 1000) : Calls Tryz.prog 138 #[.agg #[.int .i64 x.kind, .string x.name, .string x.field, .string x.sign, .slice x.va x.vals.length x.vc, .slice x.wa x.whs.length x.wc, .int .i64 x.within, .int .i64 x.number, .slice x.aa na x.ac], .agg #[.bool true, .bool true, .bool true, .bool true, .bool true, .bool true, .int .i64 0, .int .i64 0, .int .i64 0, .int .i64 0]] w (BoolO w (frmB x na)) := by
  have HE := Lib.hid (show frmB x na = (!((!true && !x.name.toList.isEmpty) || (!true && !x.field.toList.isEmpty) || (!true && !x.sign.toList.isEmpty) || (!true && (x.within != 0)) || (!true && (x.number != 0))) && decide (0 ≤ x.vals.length ∧ x.vals.length ≤ 0) && decide (0 ≤ na ∧ na ≤ 0) && decide (x.whs.length ≤ 5)) by rw [frm_spell, hk]; rfl)
  generalize frmB x na = r at *
  have CV := Lib.hid (fun w => swithin_any x.vals.length 0 0 0 0 w rfl rfl)
  have CA := Lib.hid (fun w => swithin_any na 0 0 0 0 w rfl rfl)
  obtain ⟨kind, name, field, sign, va, vc, vals, wa, wc, whs, within, number, aa, ac⟩ := x
  simp only at *
  generalize whs.length = nw at *
  generalize vals.length = nv at *
  generalize decide (0 ≤ nv ∧ nv ≤ 0) = d1 at *
  generalize decide (0 ≤ na ∧ na ≤ 0) = d2 at *
  subst hk
  go_enter Tryz.func138, Tryz.ntmps138
  go_wp2_with fail
  all_goals first
    | (exfalso; clear CV CA HE; simp_all; done)
    | (go_ret; exact ⟨ret_bool (by rw [HE.out]; simp only [*]; simp), ((Below.refl _ _).alloc (Nat.le_refl _) _).alloc (by simp) _⟩)
    | skip
  with_reducible refine (CV.out _).mono ?_
  rintro e w1 ⟨rfl, rfl⟩
  cases d1 with
  | false =>
    go_wp2_with fail
    go_ret
    exact ⟨ret_bool (by rw [HE.out]; simp), ((Below.refl _ _).alloc (Nat.le_refl _) _).alloc (by simp) _⟩
  | true =>
    go_wp2_with fail
    with_reducible refine (CA.out _).mono ?_
    rintro e w1 ⟨rfl, rfl⟩
    cases d2 with
    | false =>
      go_wp2_with fail
      go_ret
      exact ⟨ret_bool (by rw [HE.out]; simp), ((Below.refl _ _).alloc (Nat.le_refl _) _).alloc (by simp) _⟩
    | true =>
      go_wp2_with fail
      all_goals
        go_ret
        exact ⟨ret_bool (by rw [HE.out]; simp [*]; try exact whs5 _), ((Below.refl _ _).alloc (Nat.le_refl _) _).alloc (by simp) _⟩
set_option maxRecDepth 100000 in
set_option maxHeartbeats 1000000 in
theorem formed_13 (x : Nd) (na : Nat) (w : World) (hk : x.kind = 13) (hw : x.whs.length ≤ 1000) : Calls Tryz.prog 138 #[.agg #[.int .i64 x.kind, .string x.name, .string x.field, .string x.sign, .slice x.va x.vals.length x.vc, .slice x.wa x.whs.length x.wc, .int .i64 x.within, .int .i64 x.number, .slice x.aa na x.ac], .agg #[.bool true, .bool false, .bool true, .bool true, .bool false, .bool true, .int .i64 0, .int .i64 0, .int .i64 0, .int .i64 0]] w (BoolO w (frmB x na)) := by
  have HE := Lib.hid (show frmB x na = (!((!true && !x.name.toList.isEmpty) || (!false && !x.field.toList.isEmpty) || (!true && !x.sign.toList.isEmpty) || (!false && (x.within != 0)) || (!true && (x.number != 0))) && decide (0 ≤ x.vals.length ∧ x.vals.length ≤ 0) && decide (0 ≤ na ∧ na ≤ 0) && decide (x.whs.length ≤ 5)) by rw [frm_spell, hk]; rfl)
  generalize frmB x na = r at *
  have CV := Lib.hid (fun w => swithin_any x.vals.length 0 0 0 0 w rfl rfl)
  have CA := Lib.hid (fun w => swithin_any na 0 0 0 0 w rfl rfl)
  obtain ⟨kind, name, field, sign, va, vc, vals, wa, wc, whs, within, number, aa, ac⟩ := x
  simp only at *
  generalize whs.length = nw at *
  generalize vals.length = nv at *
  generalize decide (0 ≤ nv ∧ nv ≤ 0) = d1 at *
  generalize decide (0 ≤ na ∧ na ≤ 0) = d2 at *
  subst hk
  go_enter Tryz.func138, Tryz.ntmps138
  go_wp2_with fail
  all_goals first
    | (exfalso; clear CV CA HE; simp_all; done)
    | (go_ret; exact ⟨ret_bool (by rw [HE.out]; simp only [*]; simp), ((Below.refl _ _).alloc (Nat.le_refl _) _).alloc (by simp) _⟩)
    | skip
  with_reducible refine (CV.out _).mono ?_
  rintro e w1 ⟨rfl, rfl⟩
  cases d1 with
  | false =>
    go_wp2_with fail
    go_ret
    exact ⟨ret_bool (by rw [HE.out]; simp), ((Below.refl _ _).alloc (Nat.le_refl _) _).alloc (by simp) _⟩
  | true =>
    go_wp2_with fail
    with_reducible refine (CA.out _).mono ?_
    rintro e w1 ⟨rfl, rfl⟩
    cases d2 with
    | false =>
      go_wp2_with fail
      go_ret
      exact ⟨ret_bool (by rw [HE.out]; simp), ((Below.refl _ _).alloc (Nat.le_refl _) _).alloc (by simp) _⟩
    | true =>
      go_wp2_with fail
      all_goals
        go_ret
        exact ⟨ret_bool (by rw [HE.out]; simp [*]; try exact whs5 _), ((Below.refl _ _).alloc (Nat.le_refl _) _).alloc (by simp) _⟩
set_option maxRecDepth 100000 in
set_option maxHeartbeats 1000000 in
theorem formed_14 (x : Nd) (na : Nat) (w : World) (hk : x.kind = 14) (hw : x.whs.length ≤ 1000) : Calls Tryz.prog 138 #[.agg #[.int .i64 x.kind, .string x.name, .string x.field, .string x.sign, .slice x.va x.vals.length x.vc, .slice x.wa x.whs.length x.wc, .int .i64 x.within, .int .i64 x.number, .slice x.aa na x.ac], .agg #[.bool true, .bool true, .bool false, .bool false, .bool true, .bool false, .int .i64 0, .int .i64 0, .int .i64 0, .int .i64 0]] w (BoolO w (frmB x na)) := by
  have HE := Lib.hid (show frmB x na = (!((!true && !x.name.toList.isEmpty) || (!true && !x.field.toList.isEmpty) || (!false && !x.sign.toList.isEmpty) || (!true && (x.within != 0)) || (!false && (x.number != 0))) && decide (0 ≤ x.vals.length ∧ x.vals.length ≤ 0) && decide (0 ≤ na ∧ na ≤ 0) && decide (x.whs.length ≤ 0)) by rw [frm_spell, hk]; rfl)
  generalize frmB x na = r at *
  have CV := Lib.hid (fun w => swithin_any x.vals.length 0 0 0 0 w rfl rfl)
  have CA := Lib.hid (fun w => swithin_any na 0 0 0 0 w rfl rfl)
  obtain ⟨kind, name, field, sign, va, vc, vals, wa, wc, whs, within, number, aa, ac⟩ := x
  simp only at *
  generalize whs.length = nw at *
  generalize vals.length = nv at *
  generalize decide (0 ≤ nv ∧ nv ≤ 0) = d1 at *
  generalize decide (0 ≤ na ∧ na ≤ 0) = d2 at *
  subst hk
  go_enter Tryz.func138, Tryz.ntmps138
  go_wp2_with fail
  all_goals first
    | (exfalso; clear CV CA HE; simp_all; done)
    | (go_ret; exact ⟨ret_bool (by rw [HE.out]; simp only [*]; simp), ((Below.refl _ _).alloc (Nat.le_refl _) _).alloc (by simp) _⟩)
    | skip
  with_reducible refine (CV.out _).mono ?_
  rintro e w1 ⟨rfl, rfl⟩
  cases d1 with
  | false =>
    go_wp2_with fail
    go_ret
    exact ⟨ret_bool (by rw [HE.out]; simp), ((Below.refl _ _).alloc (Nat.le_refl _) _).alloc (by simp) _⟩
  | true =>
    go_wp2_with fail
    with_reducible refine (CA.out _).mono ?_
    rintro e w1 ⟨rfl, rfl⟩
    cases d2 with
    | false =>
      go_wp2_with fail
      go_ret
      exact ⟨ret_bool (by rw [HE.out]; simp), ((Below.refl _ _).alloc (Nat.le_refl _) _).alloc (by simp) _⟩
    | true =>
      go_wp2_with fail
      all_goals
        go_ret
        exact ⟨ret_bool (by rw [HE.out]; simp [*]; try exact whs5 _), ((Below.refl _ _).alloc (Nat.le_refl _) _).alloc (by simp) _⟩
theorem formed_any (x : Nd) (na : Nat) (w : World) (h1 : 1 ≤ x.kind) (h2 : x.kind ≤ 14) (hw : x.whs.length ≤ 1000) : Calls Tryz.prog 138 #[.agg #[.int .i64 x.kind, .string x.name, .string x.field, .string x.sign, .slice x.va x.vals.length x.vc, .slice x.wa x.whs.length x.wc, .int .i64 x.within, .int .i64 x.number, .slice x.aa na x.ac], .agg (usC x.kind).toArray] w (BoolO w (frmB x na)) := by
  have : x.kind = 1 ∨ x.kind = 2 ∨ x.kind = 3 ∨ x.kind = 4 ∨ x.kind = 5 ∨ x.kind = 6 ∨ x.kind = 7 ∨ x.kind = 8 ∨ x.kind = 9 ∨ x.kind = 10 ∨ x.kind = 11 ∨ x.kind = 12 ∨ x.kind = 13 ∨ x.kind = 14 := by omega
  rcases this with h | h | h | h | h | h | h | h | h | h | h | h | h | h
  · rw [show usC x.kind = [.bool false, .bool false, .bool false, .bool false, .bool false, .bool false, .int .i64 0, .int .i64 0, .int .i64 0, .int .i64 0] by rw [h]; rfl]
    exact formed_1 x na w h hw
  · rw [show usC x.kind = [.bool false, .bool false, .bool false, .bool false, .bool false, .bool false, .int .i64 0, .int .i64 0, .int .i64 0, .int .i64 0] by rw [h]; rfl]
    exact formed_2 x na w h hw
  · rw [show usC x.kind = [.bool false, .bool false, .bool false, .bool false, .bool false, .bool false, .int .i64 0, .int .i64 0, .int .i64 2, .int .i64 1073741824] by rw [h]; rfl]
    exact formed_3 x na w h hw
  · rw [show usC x.kind = [.bool false, .bool false, .bool false, .bool false, .bool false, .bool false, .int .i64 0, .int .i64 0, .int .i64 2, .int .i64 1073741824] by rw [h]; rfl]
    exact formed_4 x na w h hw
  · rw [show usC x.kind = [.bool false, .bool false, .bool false, .bool false, .bool false, .bool false, .int .i64 0, .int .i64 0, .int .i64 1, .int .i64 1] by rw [h]; rfl]
    exact formed_5 x na w h hw
  · rw [show usC x.kind = [.bool true, .bool false, .bool false, .bool false, .bool false, .bool false, .int .i64 0, .int .i64 0, .int .i64 0, .int .i64 0] by rw [h]; rfl]
    exact formed_6 x na w h hw
  · rw [show usC x.kind = [.bool true, .bool false, .bool true, .bool false, .bool false, .bool false, .int .i64 1, .int .i64 1, .int .i64 0, .int .i64 0] by rw [h]; rfl]
    exact formed_7 x na w h hw
  · rw [show usC x.kind = [.bool true, .bool false, .bool false, .bool false, .bool false, .bool false, .int .i64 1, .int .i64 50, .int .i64 0, .int .i64 0] by rw [h]; rfl]
    exact formed_8 x na w h hw
  · rw [show usC x.kind = [.bool true, .bool false, .bool false, .bool false, .bool false, .bool false, .int .i64 1, .int .i64 1, .int .i64 0, .int .i64 0] by rw [h]; rfl]
    exact formed_9 x na w h hw
  · rw [show usC x.kind = [.bool true, .bool false, .bool false, .bool false, .bool false, .bool false, .int .i64 1, .int .i64 1, .int .i64 0, .int .i64 0] by rw [h]; rfl]
    exact formed_10 x na w h hw
  · rw [show usC x.kind = [.bool true, .bool false, .bool true, .bool true, .bool true, .bool true, .int .i64 0, .int .i64 0, .int .i64 0, .int .i64 0] by rw [h]; rfl]
    exact formed_11 x na w h hw
  · rw [show usC x.kind = [.bool true, .bool true, .bool true, .bool true, .bool true, .bool true, .int .i64 0, .int .i64 0, .int .i64 0, .int .i64 0] by rw [h]; rfl]
    exact formed_12 x na w h hw
  · rw [show usC x.kind = [.bool true, .bool false, .bool true, .bool true, .bool false, .bool true, .int .i64 0, .int .i64 0, .int .i64 0, .int .i64 0] by rw [h]; rfl]
    exact formed_13 x na w h hw
  · rw [show usC x.kind = [.bool true, .bool true, .bool false, .bool false, .bool true, .bool false, .int .i64 0, .int .i64 0, .int .i64 0, .int .i64 0] by rw [h]; rfl]
    exact formed_14 x na w h hw
end Go.Proofs.YtfdpfkdfglombaaGreatDoor
