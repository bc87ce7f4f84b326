/- handref1.SamePriced, slices.Equal at api.Taken, at what is the same (printed by gen_prc.py). -/
import Derived.Test.YtdefjnefkdemiaaGreatDoorPrice
import Derived.Test.YtdefjnefkdemiaaGreatDoorM3
import Derived.Laws.StructEq
import Derived.Deep.QuietTactic
import Derived.BigQuiet
set_option linter.unusedVariables false
namespace Go.Proofs.YtdefjnefkdemiaaGreatDoor
open Go.RowKit Go.Sort

theorem tk_equal (a : ByteArray) (b : Int) (c : ByteArray) (d : Int) (w : World) : (Op.equalIn 10000 79 (.agg #[.string a, .int .i64 b]) (.agg #[.string c, .int .i64 d])).run Tryz.prog w = .ok (a.toList == c.toList && b == d) w := by
  have u3 := Tryz.underlying3
  have a3 := Tryz.isAgg3
  have z3 := Tryz.sizeOf3
  have u9 := Tryz.underlying9
  have a9 := Tryz.isAgg9
  have z9 := Tryz.sizeOf9
  have hS : Tryz.prog.underlying 79 = some (.struct (Tryz.prog.fieldsOf 79)) := by kernel_rfl
  have hp : Tryz.prog.stoodInHeld 79 = false := by kernel_rfl
  rw [show (10000 : Nat) = 9999 + 1 from rfl, run_equalIn_agg w 9999 79 _ _ hS hp]
  simp only [Program.fieldsOf, Tryz.underlying79]
  go_simp
  by_cases h1 : a.toList = c.toList <;> by_cases h2 : b = d <;> simp [h1, h2]
theorem tk_neq (a : ByteArray) (b : Int) (c : ByteArray) (d : Int) (w : World) : (binOp .neq 79 (.agg #[.string a, .int .i64 b]) (.agg #[.string c, .int .i64 d])).run Tryz.prog w = .ok (.bool (!(a.toList == c.toList && b == d))) w := by
  rw [run_neq_struct, tk_equal]; rfl
theorem tk_guard (op : BinOp) (x y : Operand) (xs ys : Array Value) (w : World) : (eqGuard op 79 x y (.agg xs) (.agg ys)).run Tryz.prog w = .ok () w :=
  run_eqGuard_agg w op _ x y xs ys (by kernel_rfl)
set_option maxHeartbeats 4000000 in
theorem equal_tks (w : World) (a b : Option Addr) (c d : Nat) (l : List (ByteArray × Int)) (n : Nat) (hn : l.length = n) (h : RAt w a 2 TkC l) (h' : RAt w b 2 TkC l) (hl : n ≤ 1000) :
    Calls Tryz.prog 46 #[.slice a n c, .slice b n d] w fun e w' => e = .returned (.bool true) ∧ ∃ q, w' = w.drewN q := by
  have hE := fun a b c d (w : World) => tk_neq a b c d w
  have hG := fun x y xs ys (w : World) => tk_guard .neq x y xs ys w
  have HI := Lib.hid h
  have HJ := Lib.hid h'
  have HN := Lib.hid hn
  clear h h' hn
  go_enter Tryz.func46, Tryz.ntmps46
  go_wp2_with fail
  go_loopw [13] (fun i wr => ∃ k q : Nat, k ≤ n ∧ i = .int .i64 k ∧ wr = w.drewN q) (fun i _ => n - (intOf i).toNat)
  case atStart => exact ⟨0, 0, Nat.zero_le _, rfl, rfl⟩
  case round =>
    obtain ⟨k, q, hk, rfl, rfl⟩ := hrel
    by_cases hlt : k < n
    · have hkz : k < l.length := by have := HN.out; omega
      obtain ⟨p1, o1, rfl, -, h1⟩ := HI.out k hkz
      obtain ⟨p2, o2, rfl, -, h2⟩ := HJ.out k hkz
      have d1 : (w.drewN q).cell? ⟨p1, o1 + k * 2, none⟩ = some (.string l[k].1) := h1 0 _ rfl
      have d2 : (w.drewN q).cell? ⟨p1, o1 + k * 2 + 1, none⟩ = some (.int .i64 l[k].2) := h1 1 _ rfl
      have d3 : (w.drewN q).cell? ⟨p2, o2 + k * 2, none⟩ = some (.string l[k].1) := h2 0 _ rfl
      have d4 : (w.drewN q).cell? ⟨p2, o2 + k * 2 + 1, none⟩ = some (.int .i64 l[k].2) := h2 1 _ rfl
      have hk0 : (0 : Int) ≤ k := by omega
      have hk1 : (k : Int) < n := by omega
      clear h1 h2
      generalize l[k].1 = x at *
      generalize l[k].2 = y at *
      have hb : (!(x.toList == x.toList && y == y)) = false := by simp
      generalize hwq : w.drewN q = wq at *
      have HWQ := Lib.hid hwq
      clear hwq
      go_wp2_with fail
      go_quiet (fail)
      go_wp2
      go_roundw
      case rel => exact ⟨k + 1, _, by omega, by go_num, by rw [← HWQ.out, World.drewN_drewN]⟩
      case measure => simp [intOf]; omega
    · go_wp2
      go_ret
      exact ⟨rfl, q, rfl⟩
set_option maxRecDepth 100000 in
set_option maxHeartbeats 4000000 in
theorem samePriced_any (w : World) (b b' : Nat) (v u : Value) (s : PrS) (h : PrcAt w b v s) (h' : PrcAt w b' u s) (hl : s.left.length ≤ 1000) (hc : s.cuts.length ≤ 1000) :
    Calls Tryz.prog 16 #[v, u] w fun e w' => e = .returned (.bool true) ∧ Below w.heap.size w w' := by
  obtain ⟨la, cl, lc, cc, rfl, h1, h2, -, -, -, -⟩ := h
  obtain ⟨la', cl', lc', cc', rfl, k1, k2, -, -, -, -⟩ := h'
  obtain ⟨w2, hw2⟩ : ∃ w2, (w.alloc (.cells #[.slice la s.left.length cl, .int .i64 (s.ship : Int), .slice lc s.cuts.length cc, .int .i64 ((s.ship + s.left.sum : Nat) : Int)] 42)).alloc (.cells #[.slice la' s.left.length cl', .int .i64 (s.ship : Int), .slice lc' s.cuts.length cc', .int .i64 ((s.ship + s.left.sum : Nat) : Int)] 42) = w2 := ⟨_, rfl⟩
  have HBB := (((Below.refl w.heap.size w).alloc (Nat.le_refl _) (.cells #[.slice la s.left.length cl, .int .i64 (s.ship : Int), .slice lc s.cuts.length cc, .int .i64 ((s.ship + s.left.sum : Nat) : Int)] 42)).alloc (by simp) (.cells #[.slice la' s.left.length cl', .int .i64 (s.ship : Int), .slice lc' s.cuts.length cc', .int .i64 ((s.ship + s.left.sum : Nat) : Int)] 42))
  have X := Lib.hid ((XB.new w [.slice la s.left.length cl, .int .i64 (s.ship : Int), .slice lc s.cuts.length cc, .int .i64 ((s.ship + s.left.sum : Nat) : Int)] 42).alloc (.cells #[.slice la' s.left.length cl', .int .i64 (s.ship : Int), .slice lc' s.cuts.length cc', .int .i64 ((s.ship + s.left.sum : Nat) : Int)] 42))
  have Y := Lib.hid (XB.new (w.alloc (.cells #[.slice la s.left.length cl, .int .i64 (s.ship : Int), .slice lc s.cuts.length cc, .int .i64 ((s.ship + s.left.sum : Nat) : Int)] 42)) [.slice la' s.left.length cl', .int .i64 (s.ship : Int), .slice lc' s.cuts.length cc', .int .i64 ((s.ship + s.left.sum : Nat) : Int)] 42)
  have hz1 : (w.alloc (.cells #[.slice la s.left.length cl, .int .i64 (s.ship : Int), .slice lc s.cuts.length cc, .int .i64 ((s.ship + s.left.sum : Nat) : Int)] 42)).heap.size = w.heap.size + 1 := by simp
  simp only [List.toArray] at X Y
  rw [hz1] at Y
  rw [hw2] at X Y HBB
  have HB2 := Lib.hid HBB
  have CE := Lib.hid (equal_same w2 (.slice la s.left.length cl) (.slice la' s.left.length cl') (s.left.map fun (z : Nat) => (z : Int)) ⟨la, cl, by simp, h1.below HBB⟩ ⟨la', cl', by simp, k1.below HBB⟩ (by simp; omega))
  have CT := Lib.hid (fun q => equal_tks (w2.drewN q) lc lc' cc cc' s.cuts s.cuts.length rfl (h2.below (below_drewN HBB q)) (k2.below (below_drewN HBB q)) hc)
  obtain ⟨x0, x1, x2, x3⟩ := X.out.at4
  obtain ⟨y0, y1, y2, y3⟩ := Y.out.at4
  have hxl := X.out.1
  have hyl := Y.out.1
  clear h1 h2 k1 k2 HBB hl hc hz1 X Y
  generalize s.left.length = nl at *
  generalize s.cuts.length = nc at *
  generalize s.ship + s.left.sum = tt at *
  generalize s.ship = ss at *
  go_enter Tryz.func16, Tryz.ntmps16
  go_upto_region 1 with (fail)
  clear hw2
  go_wp2_with fail
  with_reducible refine CE.out.mono ?_
  rintro e w3 ⟨rfl, q, rfl⟩
  have e0 : (w2.drewN q).cell? ⟨w.heap.size, 1, none⟩ = some (.int .i64 (ss : Int)) := x1
  go_wp2_with fail
  with_reducible refine (CT.out q).mono ?_
  rintro e w3 ⟨rfl, q2, rfl⟩
  go_wp2_with fail
  go_ret
  exact ⟨rfl, below_drewN HB2.out _⟩
end Go.Proofs.YtdefjnefkdemiaaGreatDoor
