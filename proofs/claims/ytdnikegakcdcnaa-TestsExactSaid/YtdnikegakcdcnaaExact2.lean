/- Contracts of the closures of the exact test. -/
import Derived.Test.YtdnikegakcdcnaaExact
set_option linter.unusedVariables false
namespace Go.Proofs.Ytdnikegakcdcnaa
open Go.RowKit

theorem chI_nat (n k : Int) (hk : 0 ≤ k) : chI n k = (Choose.ch n.toNat k.toNat : Nat) := by unfold chI; rw [if_neg (by omega)]
theorem wy_int (a b c d x : Nat) (hx : x ≤ a + c) : chI ((a : Int) + b) x * chI ((c : Int) + d) ((a : Int) + c - x) = (wy (a + b) (c + d) (a + c) x : Nat) := by
  rw [chI_nat _ _ (by omega), chI_nat _ _ (by omega)]
  unfold wy
  have e1 : ((a : Int) + b).toNat = a + b := by omega
  have e2 : ((c : Int) + d).toNat = c + d := by omega
  have e3 : ((a : Int) + c - x).toNat = a + c - x := by omega
  have e4 : ((x : Int)).toNat = x := by omega
  rw [e1, e2, e3, e4, Int.natCast_mul]

set_option maxHeartbeats 1000000 in
theorem ways_any (a b c d x : Nat) (pa pb pc pd : Nat) (w : World) (h : a + b + c + d ≤ 60) (hx : x ≤ a + c)
    (ca : w.cell? ⟨pa, 0, none⟩ = some (.int .i64 a)) (cb : w.cell? ⟨pb, 0, none⟩ = some (.int .i64 b)) (cc : w.cell? ⟨pc, 0, none⟩ = some (.int .i64 c)) (cd : w.cell? ⟨pd, 0, none⟩ = some (.int .i64 d)) :
    Calls Try.prog 60 #[.int .i64 x, .pointer (some ⟨pa, 0, none⟩), .pointer (some ⟨pb, 0, none⟩), .pointer (some ⟨pc, 0, none⟩), .pointer (some ⟨pd, 0, none⟩)] w
      (Drw (.int .i64 (wy (a + b) (c + d) (a + c) x : Nat)) w) := by
  have HW := Lib.hid (wy_int a b c d x hx)
  have hw := wy_le (a + b) (c + d) (a + c) x (by omega)
  have e1 : IntKind.i64.wrap ((a : Int) + b) = (a : Int) + b := IntWalk.i64_in _ (by omega)
  have e2 : IntKind.i64.wrap ((c : Int) + d) = (c : Int) + d := IntWalk.i64_in _ (by omega)
  have e3 : IntKind.i64.wrap ((a : Int) + c) = (a : Int) + c := IntWalk.i64_in _ (by omega)
  have e4 : IntKind.i64.wrap ((a : Int) + c - x) = (a : Int) + c - x := IntWalk.i64_in _ (by omega)
  have e5 : IntKind.i64.wrap (chI ((a : Int) + b) x * chI ((c : Int) + d) ((a : Int) + c - x)) = (wy (a + b) (c + d) (a + c) x : Nat) := by
    rw [HW.out]; exact IntWalk.i64_in _ (by omega)
  have HC1 := Lib.hid (fun w => choose_int ((a : Int) + b) x w (by omega) (by omega))
  have HC2 := Lib.hid (fun w => choose_int ((c : Int) + d) ((a : Int) + c - x) w (by omega) (by omega))
  go_enter Try.func60, Try.ntmps60
  go_wp2_with fail
  go_quiet ((go_at_call 55; first | (with_reducible exact Calls.quiet_of (HC1.out _)) | (with_reducible exact Calls.quiet_of (HC2.out _))))
  go_wp2
  go_ret
  exact ⟨rfl, _, rfl⟩

theorem ChooseOf_int (n k : Int) (w : World) (hn0 : 0 ≤ n) (hn : n ≤ 60) (hk0 : 0 ≤ k) (hk : k ≤ n) :
    Calls Try.prog 19 #[.int .i64 n, .int .i64 k] w fun e w' => e = .returned (.int .i64 (chI n k)) ∧ Below w.heap.size w w' := by
  obtain ⟨x, rfl⟩ := Int.eq_ofNat_of_zero_le hn0
  obtain ⟨y, rfl⟩ := Int.eq_ofNat_of_zero_le hk0
  rw [chI_nat _ _ hk0]
  simp only [Int.toNat_natCast]
  exact ChooseOf_any x y w (by omega) (by omega)

set_option maxHeartbeats 2000000 in
theorem waysOf_any (a b c d x : Nat) (pa pb pc pd : Nat) (w : World) (h : a + b + c + d ≤ 60) (hx : x ≤ a + c)
    (ca : w.cell? ⟨pa, 0, none⟩ = some (.int .i64 a)) (cb : w.cell? ⟨pb, 0, none⟩ = some (.int .i64 b)) (cc : w.cell? ⟨pc, 0, none⟩ = some (.int .i64 c)) (cd : w.cell? ⟨pd, 0, none⟩ = some (.int .i64 d)) :
    Calls Try.prog 61 #[.int .i64 x, .pointer (some ⟨pa, 0, none⟩), .pointer (some ⟨pc, 0, none⟩), .pointer (some ⟨pb, 0, none⟩), .pointer (some ⟨pd, 0, none⟩)] w
      fun e w' => e = .returned (.int .i64 (wy (a + b) (c + d) (a + c) x : Nat)) ∧ Below w.heap.size w w' := by
  have la := World.block_lt_of_cell? w _ ca
  have lb := World.block_lt_of_cell? w _ cb
  have lc := World.block_lt_of_cell? w _ cc
  have ld := World.block_lt_of_cell? w _ cd
  simp only at la lb lc ld
  by_cases h1 : a + b < x
  · have HW := Lib.hid (show wy (a + b) (c + d) (a + c) x = 0 by unfold wy; rw [Choose.ch_gt _ _ h1]; simp)
    go_enter Try.func61, Try.ntmps61
    go_wp2
    go_ret
    exact ⟨ret_int (by rw [HW.out]; rfl), by go_grown⟩
  · by_cases h2 : c + d < a + c - x
    · have HW := Lib.hid (show wy (a + b) (c + d) (a + c) x = 0 by unfold wy; rw [Choose.ch_gt (c + d) _ h2]; simp)
      have h2' : (c : Int) + d < a + c - x := by omega
      go_enter Try.func61, Try.ntmps61
      go_wp2
      go_ret
      exact ⟨ret_int (by rw [HW.out]; rfl), by go_grown⟩
    · have HW := Lib.hid (wy_int a b c d x hx)
      have hw := wy_le (a + b) (c + d) (a + c) x (by omega)
      have h2' : ¬ ((c : Int) + d < a + c - x) := by omega
      have h1' : ¬ ((a : Int) + b < x) := by omega
      have e1 : IntKind.i64.wrap ((a : Int) + b) = (a : Int) + b := IntWalk.i64_in _ (by omega)
      have e2 : IntKind.i64.wrap ((c : Int) + d) = (c : Int) + d := IntWalk.i64_in _ (by omega)
      have e5 : IntKind.i64.wrap (chI ((a : Int) + b) x * chI ((c : Int) + d) ((a : Int) + c - x)) = (wy (a + b) (c + d) (a + c) x : Nat) := by
        rw [HW.out]; exact IntWalk.i64_in _ (by omega)
      have HC1 := Lib.hid (fun w => ChooseOf_int ((a : Int) + b) x w (by omega) (by omega) (by omega) (by omega))
      have HC2 := Lib.hid (fun w => ChooseOf_int ((c : Int) + d) ((a : Int) + c - x) w (by omega) (by omega) (by omega) (by omega))
      have E1 := Lib.hid e1
      have E2 := Lib.hid e2
      have E5 := Lib.hid e5
      clear e1 e2 e5
      go_enter Try.func61, Try.ntmps61
      go_wp2_with fail
      have e1 := E1.out
      have e2 := E2.out
      have e5 := E5.out
      go_region_held3 (fun w' => w'.cell? ⟨pa, 0, none⟩ = some (.int .i64 a) ∧ w'.cell? ⟨pb, 0, none⟩ = some (.int .i64 b) ∧ w'.cell? ⟨pc, 0, none⟩ = some (.int .i64 c) ∧ w'.cell? ⟨pd, 0, none⟩ = some (.int .i64 d))
        (first | go_keep | (go_split_ands; have hz := b1.size; simp at hz; refine ⟨(b2.cell (by show pa < _; omega)).trans ?_, (b2.cell (by show pb < _; omega)).trans ?_, (b2.cell (by show pc < _; omega)).trans ?_, (b2.cell (by show pd < _; omega)).trans ?_⟩ <;> assumption) | (refine ⟨(b1.cell (by simpa using la)).trans ?_, (b1.cell (by simpa using lb)).trans ?_, (b1.cell (by simpa using lc)).trans ?_, (b1.cell (by simpa using ld)).trans ?_⟩ <;> (go_simp)))
        (first | (go_at_call 19; with_reducible refine (HC1.out _).mono ?_; rintro e w1 ⟨rfl, b1⟩) | (go_at_call 19; with_reducible refine (HC2.out _).mono ?_; rintro e w2 ⟨rfl, b2⟩))
      go_wp2
      go_ret
      exact ⟨rfl, ((Below.refl _ _).drew.trans b1).trans (b2.mono b1.size)⟩
end Go.Proofs.Ytdnikegakcdcnaa
