/- slices.Equal over rows (printed by gen_rw.py). -/
import Derived.Test.YtgdagknjnidmiaaGreatDoorActP
import Derived.Deep.Cut
import Derived.Laws.StructEq
import Derived.Deep.QuietTactic
import Derived.BigQuiet
set_option linter.unusedVariables false
namespace Go.Proofs.YtgdagknjnidmiaaGreatDoor
open Go.RowKit

theorem rw_at6 {α : Type} {w : World} {a : Option Addr} {C : Nat} {f : α → List Value} {l : List α} (h : RAt w a C f l) {j : Nat} (hj : j < l.length) {v0 v1 v2 v3 v4 v5 : Value} (e : f l[j] = [v0, v1, v2, v3, v4, v5]) :
    ∃ p off, a = some ⟨p, off, none⟩ ∧ p < w.heap.size ∧ w.cell? ⟨p, off + j * C, none⟩ = some v0 ∧ w.cell? ⟨p, off + j * C + 1, none⟩ = some v1 ∧ w.cell? ⟨p, off + j * C + 2, none⟩ = some v2 ∧ w.cell? ⟨p, off + j * C + 3, none⟩ = some v3 ∧ w.cell? ⟨p, off + j * C + 4, none⟩ = some v4 ∧ w.cell? ⟨p, off + j * C + 5, none⟩ = some v5 := by
  obtain ⟨p, off, h1, h2, h3⟩ := h j hj
  rw [e] at h3
  exact ⟨p, off, h1, h2, h3 0 v0 rfl, h3 1 v1 rfl, h3 2 v2 rfl, h3 3 v3 rfl, h3 4 v4 rfl, h3 5 v5 rfl⟩
theorem rw_same (s : ByteArray) (n1 n2 n3 n4 n5 : Int) (w : World) : (Op.equalIn 10000 37 (.agg #[.string s, .int .i64 n1, .int .i64 n2, .int .i64 n3, .int .i64 n4, .int .i64 n5]) (.agg #[.string s, .int .i64 n1, .int .i64 n2, .int .i64 n3, .int .i64 n4, .int .i64 n5])).run Tryz.prog w = .ok true w := by
  have u3 := Tryz.underlying3
  have a3 := Tryz.isAgg3
  have z3 := Tryz.sizeOf3
  have us := Tryz.underlying9
  have as_ := Tryz.isAgg9
  have zs := Tryz.sizeOf9
  have hS : Tryz.prog.underlying 37 = some (.struct (Tryz.prog.fieldsOf 37)) := by kernel_rfl
  have hp : Tryz.prog.stoodInHeld 37 = false := by kernel_rfl
  rw [show (10000 : Nat) = 9999 + 1 from rfl, run_equalIn_agg w 9999 37 _ _ hS hp]
  simp only [Program.fieldsOf, Tryz.underlying37]
  go_simp
theorem rw_neq (s : ByteArray) (n1 n2 n3 n4 n5 : Int) (w : World) : (binOp .neq 37 (.agg #[.string s, .int .i64 n1, .int .i64 n2, .int .i64 n3, .int .i64 n4, .int .i64 n5]) (.agg #[.string s, .int .i64 n1, .int .i64 n2, .int .i64 n3, .int .i64 n4, .int .i64 n5])).run Tryz.prog w = .ok (.bool false) w := by
  rw [run_neq_struct, rw_same]; rfl
theorem rw_guard (op : BinOp) (x y : Operand) (xs ys : Array Value) (w : World) : (eqGuard op 37 x y (.agg xs) (.agg ys)).run Tryz.prog w = .ok () w :=
  run_eqGuard_agg w op _ x y xs ys (by kernel_rfl)

set_option maxRecDepth 100000 in
set_option maxHeartbeats 4000000 in
theorem equal_rws (a a' : Option Addr) (l : List Rw) (n c c' : Nat) (w : World) (hn : l.length = n) (hn1 : n ≤ 100000) (h : RAt w a 6 Rw.cells l) (h' : RAt w a' 6 Rw.cells l) :
    Calls Tryz.prog 10 #[.slice a n c, .slice a' n c'] w fun e w' => e = .returned (.bool true) ∧ ∃ q, w' = w.drewN q := by
  have HI := Lib.hid h
  have HJ := Lib.hid h'
  have HN := Lib.hid hn
  clear h h' hn
  go_enter Tryz.func10, Tryz.ntmps10
  go_wp2_with fail
  go_loopw [13] (fun i wr => ∃ k q : Nat, k ≤ n ∧ i = .int .i64 k ∧ wr = w.drewN q) (fun i _ => n - (intOf i).toNat)
  case atStart => exact ⟨0, 0, Nat.zero_le _, rfl, rfl⟩
  case round =>
    obtain ⟨k, q, hk, rfl, rfl⟩ := hrel
    by_cases hlt : k < n
    · have hkl : k < l.length := by have := HN.out; omega
      have HI' : RAt (w.drewN q) a 6 Rw.cells l := HI.out
      have HJ' : RAt (w.drewN q) a' 6 Rw.cells l := HJ.out
      obtain ⟨p, off, rfl, -, c0, c1, c2, c3, c4, c5⟩ := rw_at6 HI' hkl (v0 := .string l[k].letter) (v1 := .int .i64 (l[k].f 1 : Int)) (v2 := .int .i64 (l[k].f 2 : Int)) (v3 := .int .i64 (l[k].f 3 : Int)) (v4 := .int .i64 (l[k].f 4 : Int)) (v5 := .int .i64 (l[k].f 5 : Int)) rfl
      obtain ⟨p2, off2, rfl, -, e0, e1, e2, e3, e4, e5⟩ := rw_at6 HJ' hkl (v0 := .string l[k].letter) (v1 := .int .i64 (l[k].f 1 : Int)) (v2 := .int .i64 (l[k].f 2 : Int)) (v3 := .int .i64 (l[k].f 3 : Int)) (v4 := .int .i64 (l[k].f 4 : Int)) (v5 := .int .i64 (l[k].f 5 : Int)) rfl
      have hk0 : (0 : Int) ≤ k := by omega
      have hk1 : (k : Int) < n := by omega
      generalize l[k] = x at *
      obtain ⟨xs, xf⟩ := x
      simp only at c0 c1 c2 c3 c4 c5 e0 e1 e2 e3 e4 e5
      have hE := fun (w : World) => rw_neq xs (xf 1 : Int) (xf 2 : Int) (xf 3 : Int) (xf 4 : Int) (xf 5 : Int) w
      have hG := fun x y xs ys (w : World) => rw_guard .neq x y xs ys w
      clear HI' HJ'
      generalize hwq : w.drewN q = wq at *
      have HWQ := Lib.hid hwq
      clear hwq
      go_wp2_with fail
      go_quiet (fail)
      go_wp2
      go_roundw
      case rel => exact ⟨k + 1, _, by omega, by go_num, by rw [← HWQ.out, World.drewN_drewN]⟩
      case measure => simp [intOf]; omega
    · go_wp2
      go_ret
      exact ⟨rfl, q, rfl⟩
end Go.Proofs.YtgdagknjnidmiaaGreatDoor
