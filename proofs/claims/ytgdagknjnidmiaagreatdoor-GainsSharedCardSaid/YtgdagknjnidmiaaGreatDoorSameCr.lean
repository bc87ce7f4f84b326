/- slices.Equal over credits. -/
import Derived.Test.YtgdagknjnidmiaaGreatDoorAttr
import Derived.Laws.StructEq
import Derived.Deep.QuietTactic
import Derived.BigQuiet
set_option linter.unusedVariables false
namespace Go.Proofs.YtgdagknjnidmiaaGreatDoor
open Go.RowKit

theorem cr_at3 {α : Type} {w : World} {a : Option Addr} {C : Nat} {f : α → List Value} {l : List α} (h : RAt w a C f l) {j : Nat} (hj : j < l.length) {v0 v1 v2 : Value} (e : f l[j] = [v0, v1, v2]) :
    ∃ p off, a = some ⟨p, off, none⟩ ∧ p < w.heap.size ∧ w.cell? ⟨p, off + j * C, none⟩ = some v0 ∧ w.cell? ⟨p, off + j * C + 1, none⟩ = some v1 ∧ w.cell? ⟨p, off + j * C + 2, none⟩ = some v2 := by
  obtain ⟨p, off, h1, h2, h3⟩ := h j hj
  rw [e] at h3
  exact ⟨p, off, h1, h2, h3 0 v0 rfl, h3 1 v1 rfl, h3 2 v2 rfl⟩
theorem cr_same (s : ByteArray) (a b : Int) (w : World) : (Op.equalIn 10000 58 (.agg #[.string s, .int .i64 a, .int .i64 b]) (.agg #[.string s, .int .i64 a, .int .i64 b])).run Tryz.prog w = .ok true w := by
  have u3 := Tryz.underlying3
  have a3 := Tryz.isAgg3
  have z3 := Tryz.sizeOf3
  have us := Tryz.underlying9
  have as_ := Tryz.isAgg9
  have zs := Tryz.sizeOf9
  have hS : Tryz.prog.underlying 58 = some (.struct (Tryz.prog.fieldsOf 58)) := by kernel_rfl
  have hp : Tryz.prog.stoodInHeld 58 = false := by kernel_rfl
  rw [show (10000 : Nat) = 9999 + 1 from rfl, run_equalIn_agg w 9999 58 _ _ hS hp]
  simp only [Program.fieldsOf, Tryz.underlying58]
  go_simp
theorem cr_neq (s : ByteArray) (a b : Int) (w : World) : (binOp .neq 58 (.agg #[.string s, .int .i64 a, .int .i64 b]) (.agg #[.string s, .int .i64 a, .int .i64 b])).run Tryz.prog w = .ok (.bool false) w := by
  rw [run_neq_struct, cr_same]; rfl
theorem cr_guard (op : BinOp) (x y : Operand) (xs ys : Array Value) (w : World) : (eqGuard op 58 x y (.agg xs) (.agg ys)).run Tryz.prog w = .ok () w :=
  run_eqGuard_agg w op _ x y xs ys (by kernel_rfl)

set_option maxRecDepth 100000 in
set_option maxHeartbeats 4000000 in
theorem equal_crs (a a' : Option Addr) (l : List Cdt) (n c c' : Nat) (w : World) (hn : l.length = n) (hn1 : n ≤ 100000) (h : RAt w a 3 Cdt.cells l) (h' : RAt w a' 3 Cdt.cells l) :
    Calls Tryz.prog 23 #[.slice a n c, .slice a' n c'] w fun e w' => e = .returned (.bool true) ∧ ∃ q, w' = w.drewN q := by
  have HI := Lib.hid h
  have HJ := Lib.hid h'
  have HN := Lib.hid hn
  clear h h' hn
  go_enter Tryz.func23, Tryz.ntmps23
  go_wp2_with fail
  go_loopw [13] (fun i wr => ∃ k q : Nat, k ≤ n ∧ i = .int .i64 k ∧ wr = w.drewN q) (fun i _ => n - (intOf i).toNat)
  case atStart => exact ⟨0, 0, Nat.zero_le _, rfl, rfl⟩
  case round =>
    obtain ⟨k, q, hk, rfl, rfl⟩ := hrel
    by_cases hlt : k < n
    · have hkl : k < l.length := by have := HN.out; omega
      have HI' : RAt (w.drewN q) a 3 Cdt.cells l := HI.out
      have HJ' : RAt (w.drewN q) a' 3 Cdt.cells l := HJ.out
      obtain ⟨p, off, rfl, -, c0, c1, c2⟩ := cr_at3 HI' hkl (v0 := .string l[k].letter) (v1 := .int .i64 (l[k].gains : Int)) (v2 := .int .i64 (l[k].cents : Int)) rfl
      obtain ⟨p2, off2, rfl, -, e0, e1, e2⟩ := cr_at3 HJ' hkl (v0 := .string l[k].letter) (v1 := .int .i64 (l[k].gains : Int)) (v2 := .int .i64 (l[k].cents : Int)) rfl
      have hk0 : (0 : Int) ≤ k := by omega
      have hk1 : (k : Int) < n := by omega
      generalize l[k] = x at *
      obtain ⟨xs, xc, xg⟩ := x
      simp only at c0 c1 c2 e0 e1 e2
      have hE := fun (w : World) => cr_neq xs (xg : Int) (xc : Int) w
      have hG := fun x y xs ys (w : World) => cr_guard .neq x y xs ys w
      clear HI' HJ'
      generalize hwq : w.drewN q = wq at *
      have HWQ := Lib.hid hwq
      clear hwq
      go_wp2_with fail
      go_quiet (fail)
      go_wp2
      go_roundw
      case rel => exact ⟨k + 1, _, by omega, by go_num, by rw [← HWQ.out, World.drewN_drewN]⟩
      case measure => simp [intOf]; omega
    · go_wp2
      go_ret
      exact ⟨rfl, q, rfl⟩
end Go.Proofs.YtgdagknjnidmiaaGreatDoor
