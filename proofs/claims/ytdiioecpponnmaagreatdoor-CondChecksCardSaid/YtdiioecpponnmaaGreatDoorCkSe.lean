/- segment.Parse at "has a". -/
import Derived.Test.YtdiioecpponnmaaGreatDoorCkPr
import Derived.Test.YtdiioecpponnmaaGreatDoorSgM
import Derived.Defers
import Derived.Recover
import Derived.Laws.Pointers
import Derived.Test.YtdiioecpponnmaaGreatDoorSgV
import Derived.Laws.Cover1
import Derived.Maps.OwnOps
set_option linter.unusedVariables false
namespace Go.Proofs.YtdiioecpponnmaaGreatDoor
open Go.RowKit

theorem catch_idle (a b c : Value) (w : World) :
    CallsD Tryz.prog 61 #[a, b, c] .returning w fun e u' w' => e = .returned (.tuple #[]) ∧ u' = .returning ∧ w' = w := by
  refine callsD_of_wpS Tryz.func61 rfl fun c₀ cs hu => ?_
  apply wpS_seq
  apply wpS_region
  simp [wpOpsS, go_sem, recoverD, hu, Tryz.ntmps61, Exit.thenS]
  apply wpS_seq
  apply wpS_region
  simp [wpOpsS, go_sem, recoverD, hu, Exit.thenS]
  refine wpS_cond (t := false) (by simp [Act.eval, Array.replicate]) ?_
  simp only [Bool.false_eq_true, if_false]
  refine wpS_of_wp (wp_skip ?_)
  cases c₀
  simp_all [bodyPostS, results, Tryz.results61]
/-- the condition "has a" -/
def hasC : Cn := .mk ⟨6, ⟨#[97]⟩, ⟨#[]⟩, ⟨#[]⟩, none, 0, [], none, 0, [], 0, 0, none, 0⟩ []
theorem hasC_ok : hasC.nd.ok := by
  unfold Nd.ok i64B maxLen hasC
  refine ⟨by decide, by decide, by decide, by decide, by decide, by decide, by decide, by decide, ?_, ?_⟩ <;> simp [Cn.nd]
theorem hasC_at (w : World) : TAt 1 w hasC :=
  ⟨hasC_ok, ⟨Nat.le_refl _, Nat.zero_le _, Nat.zero_le _⟩, RAt.nil _ _ _ _, RAt.nil _ _ _ _, RAt.nil _ _ _ _, fun x h => by cases h⟩
theorem hasC_E : cnE 1 hasC = 0 := by decide
theorem below_row {B q : Nat} {w w' : World} (k : w.grownBy w' (some q)) (hB : B ≤ q) (hs : B ≤ w.heap.size) : Below B w w' :=
  ⟨k.os, k.tape, k.output, k.size, fun i hi => k.block i (by omega) (fun e => by have := Option.some.inj e; omega)⟩
/-- what Parse leaves at "has a" -/
def PsO (w : World) (e : Ending) (w' : World) : Prop := e = .returned (.tuple #[.agg #[.int .i64 6, .string ⟨#[97]⟩, .string ⟨#[]⟩, .string ⟨#[]⟩, .slice none 0 0, .slice none 0 0, .int .i64 0, .int .i64 0, .slice none 0 0], .int .i64 0, .int .i64 0]) ∧ Below w.heap.size w w'
set_option maxRecDepth 100000 in
set_option maxHeartbeats 4000000 in
theorem parse_has (w : World) (hT : Tbs w) : Calls Tryz.prog 37 #[.string hsT] w (PsO w) := by
  have hmf : ∀ (fn : Fn) (first cap : Array Value) (w : World), (Instr.makeFunc fn first cap).run Tryz.prog w = .ok (.func fn first cap) w := fun _ _ _ _ => rfl
  have hsz : hsT.size = 5 := rfl
  have h2 := OB.new w [.int .i64 0, .string ⟨#[]⟩, .string ⟨#[]⟩, .string ⟨#[]⟩, .slice none 0 0, .slice none 0 0, .int .i64 0, .int .i64 0, .slice none 0 0] 30
  have h3 := OB.new (w.alloc (.cells #[.int .i64 0, .string ⟨#[]⟩, .string ⟨#[]⟩, .string ⟨#[]⟩, .slice none 0 0, .slice none 0 0, .int .i64 0, .int .i64 0, .slice none 0 0] 30)) [.int .i64 0] 3
  rw [World.size_alloc] at h3
  have h4 := OB.new ((w.alloc (.cells #[.int .i64 0, .string ⟨#[]⟩, .string ⟨#[]⟩, .string ⟨#[]⟩, .slice none 0 0, .slice none 0 0, .int .i64 0, .int .i64 0, .slice none 0 0] 30)).alloc (.cells #[.int .i64 0] 3)) [.int .i64 0] 35
  rw [World.size_alloc, World.size_alloc] at h4
  have hp := OB.new (((w.alloc (.cells #[.int .i64 0, .string ⟨#[]⟩, .string ⟨#[]⟩, .string ⟨#[]⟩, .slice none 0 0, .slice none 0 0, .int .i64 0, .int .i64 0, .slice none 0 0] 30)).alloc (.cells #[.int .i64 0] 3)).alloc (.cells #[.int .i64 0] 35)) (prL hsT 0 0 0 ⟨#[]⟩) 111
  rw [World.size_alloc, World.size_alloc, World.size_alloc] at hp
  have H2a := Lib.hid (show OB ((((w.alloc (.cells #[.int .i64 0, .string ⟨#[]⟩, .string ⟨#[]⟩, .string ⟨#[]⟩, .slice none 0 0, .slice none 0 0, .int .i64 0, .int .i64 0, .slice none 0 0] 30)).alloc (.cells #[.int .i64 0] 3)).alloc (.cells #[.int .i64 0] 35)).alloc (.cells #[.string hsT, .int .i64 0, .int .i64 0, .int .i64 0, .string ⟨#[]⟩] 111)) w.heap.size [.int .i64 0, .string ⟨#[]⟩, .string ⟨#[]⟩, .string ⟨#[]⟩, .slice none 0 0, .slice none 0 0, .int .i64 0, .int .i64 0, .slice none 0 0] 30 from ((h2.alloc _).alloc _).alloc _)
  have H3a := Lib.hid (show OB ((((w.alloc (.cells #[.int .i64 0, .string ⟨#[]⟩, .string ⟨#[]⟩, .string ⟨#[]⟩, .slice none 0 0, .slice none 0 0, .int .i64 0, .int .i64 0, .slice none 0 0] 30)).alloc (.cells #[.int .i64 0] 3)).alloc (.cells #[.int .i64 0] 35)).alloc (.cells #[.string hsT, .int .i64 0, .int .i64 0, .int .i64 0, .string ⟨#[]⟩] 111)) (w.heap.size + 1) [.int .i64 0] 3 from (h3.alloc _).alloc _)
  have H4a := Lib.hid (show OB ((((w.alloc (.cells #[.int .i64 0, .string ⟨#[]⟩, .string ⟨#[]⟩, .string ⟨#[]⟩, .slice none 0 0, .slice none 0 0, .int .i64 0, .int .i64 0, .slice none 0 0] 30)).alloc (.cells #[.int .i64 0] 3)).alloc (.cells #[.int .i64 0] 35)).alloc (.cells #[.string hsT, .int .i64 0, .int .i64 0, .int .i64 0, .string ⟨#[]⟩] 111)) (w.heap.size + 1 + 1) [.int .i64 0] 35 from h4.alloc _)
  have HPa := Lib.hid (show PrB ((((w.alloc (.cells #[.int .i64 0, .string ⟨#[]⟩, .string ⟨#[]⟩, .string ⟨#[]⟩, .slice none 0 0, .slice none 0 0, .int .i64 0, .int .i64 0, .slice none 0 0] 30)).alloc (.cells #[.int .i64 0] 3)).alloc (.cells #[.int .i64 0] 35)).alloc (.cells #[.string hsT, .int .i64 0, .int .i64 0, .int .i64 0, .string ⟨#[]⟩] 111)) (w.heap.size + 1 + 1 + 1) hsT 0 0 0 ⟨#[]⟩ from hp)
  have HBa := Lib.hid (show Below w.heap.size w ((((w.alloc (.cells #[.int .i64 0, .string ⟨#[]⟩, .string ⟨#[]⟩, .string ⟨#[]⟩, .slice none 0 0, .slice none 0 0, .int .i64 0, .int .i64 0, .slice none 0 0] 30)).alloc (.cells #[.int .i64 0] 3)).alloc (.cells #[.int .i64 0] 35)).alloc (.cells #[.string hsT, .int .i64 0, .int .i64 0, .int .i64 0, .string ⟨#[]⟩] 111)) from ((((Below.refl _ _).alloc (Nat.le_refl _) _).alloc (by simp [World.size_alloc]) _).alloc (by simp [World.size_alloc]; omega) _).alloc (by simp [World.size_alloc]; omega) _)
  have HT := Lib.hid hT
  clear hT h2 h3 h4 hp
  go_enter_defers Tryz.func37, Tryz.ntmps37
  go_wp2_with fail
  generalize ((((w.alloc (.cells #[.int .i64 0, .string ⟨#[]⟩, .string ⟨#[]⟩, .string ⟨#[]⟩, .slice none 0 0, .slice none 0 0, .int .i64 0, .int .i64 0, .slice none 0 0] 30)).alloc (.cells #[.int .i64 0] 3)).alloc (.cells #[.int .i64 0] 35)).alloc (.cells #[.string hsT, .int .i64 0, .int .i64 0, .int .i64 0, .string ⟨#[]⟩] 111)) = w4 at *
  have C1 := Lib.hid (scanA (w.heap.size + 1 + 1 + 1) w4 HPa.out)
  with_reducible refine C1.out.mono ?_
  rintro e w5 ⟨rfl, hA, g1⟩
  clear C1 HPa
  have H2b := Lib.hid (OB.grown H2a.out g1 (fun e => by have := Option.some.inj e; omega))
  have H3b := Lib.hid (OB.grown H3a.out g1 (fun e => by have := Option.some.inj e; omega))
  have H4b := Lib.hid (OB.grown H4a.out g1 (fun e => by have := Option.some.inj e; omega))
  have HBb := Lib.hid (HBa.out.trans (below_row g1 (by omega) HBa.out.size))
  have C2 := Lib.hid (or_has (w.heap.size + 1 + 1 + 1) w5 hA)
  clear g1 hA H2a H3a H4a HBa
  go_wp2_with fail
  with_reducible refine C2.out.mono ?_
  rintro e w6 ⟨rfl, hZ, g2⟩
  have H2c := Lib.hid (OB.grown H2b.out g2 (fun e => by have := Option.some.inj e; omega))
  have H3c := Lib.hid (OB.grown H3b.out g2 (fun e => by have := Option.some.inj e; omega))
  have H4c := Lib.hid (OB.grown H4b.out g2 (fun e => by have := Option.some.inj e; omega))
  have HBc := Lib.hid (HBb.out.trans (below_row g2 (by omega) HBb.out.size))
  have HZc := Lib.hid hZ
  clear g2 hZ C2 H2b H3b H4b HBb
  go_wp2_with (refine wpList_store_oc _ rfl _ _ _ rfl w.heap.size _ [.int .i64 6, .string ⟨#[97]⟩, .string ⟨#[]⟩, .string ⟨#[]⟩, .slice none 0 0, .slice none 0 0, .int .i64 0, .int .i64 0, .slice none 0 0] _ rfl rfl H2c.out sizeCond rfl rfl ?_)
  intro w7 o7 k7
  have HZd := Lib.hid (OB.grown HZc.out k7 (fun e => by have := Option.some.inj e; omega))
  have H3d := Lib.hid (OB.grown H3c.out k7 (fun e => by have := Option.some.inj e; omega))
  have H4d := Lib.hid (OB.grown H4c.out k7 (fun e => by have := Option.some.inj e; omega))
  have HBd := Lib.hid (HBc.out.trans (below_row k7 (Nat.le_refl _) HBc.out.size))
  have H2d := Lib.hid o7
  clear o7 k7 HZc H2c H3c H4c HBc
  have r0 := OB.cell H2d.out 0 _ rfl
  have r1 := OB.cell H2d.out 1 _ rfl
  have r2 := OB.cell H2d.out 2 _ rfl
  have r3 := OB.cell H2d.out 3 _ rfl
  have r4 := OB.cell H2d.out 4 _ rfl
  have r5 := OB.cell H2d.out 5 _ rfl
  have r6 := OB.cell H2d.out 6 _ rfl
  have r7 := OB.cell H2d.out 7 _ rfl
  have r8 := OB.cell H2d.out 8 _ rfl
  have rl := OB.lt H2d.out
  have y2 := OB.cell HZd.out 2 (.int .i64 0) rfl
  have yl := OB.lt HZd.out
  have C3 : Hid (Calls Tryz.prog 8 #[.agg #[.int .i64 6, .string ⟨#[97]⟩, .string ⟨#[]⟩, .string ⟨#[]⟩, .slice none 0 0, .slice none 0 0, .int .i64 0, .int .i64 0, .slice none 0 0]] w7 (IntO w7 0)) := Lib.hid (by rw [← hasC_E]; exact checkCond_any 1 hasC w7 (hasC_at _) (HT.out.below HBd.out))
  go_wp2_with fail
  with_reducible refine C3.out.mono ?_
  rintro e w8 ⟨rfl, b8⟩
  have H2e := Lib.hid (OB.below H2d.out b8)
  have H3e := Lib.hid (OB.below H3d.out b8)
  have H4e := Lib.hid (OB.below H4d.out b8)
  have HBe := Lib.hid (HBd.out.trans (b8.mono HBd.out.size))
  clear b8 C3 HZd H2d H3d H4d HBd r0 r1 r2 r3 r4 r5 r6 r7 r8 rl y2 yl
  have r0 := OB.cell H2e.out 0 _ rfl
  have r1 := OB.cell H2e.out 1 _ rfl
  have r2 := OB.cell H2e.out 2 _ rfl
  have r3 := OB.cell H2e.out 3 _ rfl
  have r4 := OB.cell H2e.out 4 _ rfl
  have r5 := OB.cell H2e.out 5 _ rfl
  have r6 := OB.cell H2e.out 6 _ rfl
  have r7 := OB.cell H2e.out 7 _ rfl
  have r8 := OB.cell H2e.out 8 _ rfl
  have rl := OB.lt H2e.out
  go_wp2_with (refine wpList_store_oc _ rfl _ _ _ rfl w.heap.size _ [.int .i64 6, .string ⟨#[97]⟩, .string ⟨#[]⟩, .string ⟨#[]⟩, .slice none 0 0, .slice none 0 0, .int .i64 0, .int .i64 0, .slice none 0 0] _ rfl rfl H2e.out sizeCond rfl rfl ?_)
  intro w9 o9 k9
  have H3f := Lib.hid (OB.grown H3e.out k9 (fun e => by have := Option.some.inj e; omega))
  have H4f := Lib.hid (OB.grown H4e.out k9 (fun e => by have := Option.some.inj e; omega))
  have HBf := Lib.hid (HBe.out.trans (below_row k9 (Nat.le_refl _) HBe.out.size))
  have H2f := Lib.hid o9
  clear o9 k9 H2e H3e H4e HBe r0 r1 r2 r3 r4 r5 r6 r7 r8 rl
  have r0 := OB.cell H2f.out 0 _ rfl
  have r1 := OB.cell H2f.out 1 _ rfl
  have r2 := OB.cell H2f.out 2 _ rfl
  have r3 := OB.cell H2f.out 3 _ rfl
  have r4 := OB.cell H2f.out 4 _ rfl
  have r5 := OB.cell H2f.out 5 _ rfl
  have r6 := OB.cell H2f.out 6 _ rfl
  have r7 := OB.cell H2f.out 7 _ rfl
  have r8 := OB.cell H2f.out 8 _ rfl
  have c3 := OB.cell H3f.out 0 _ rfl
  have z3 := OB.free H3f.out 0
  have l3 := OB.lt H3f.out
  have c4 := OB.cell H4f.out 0 _ rfl
  have z4 := OB.free H4f.out 0
  have l4 := OB.lt H4f.out
  go_wp2_with fail
  refine leaves_cons (f := 61) (args := #[.pointer (some ⟨w.heap.size, 0, none⟩), .pointer (some ⟨(w.heap.size + 1), 0, none⟩), .pointer (some ⟨(w.heap.size + 1 + 1), 0, none⟩)]) (by simp) (by simp [go_sem]) ?_
  refine (catch_idle _ _ _ _).mono ?_
  rintro e u' w'' ⟨rfl, rfl, rfl⟩
  have g10 := Lib.hid ((HBf.out.trans (below_row (grown_setc w9 (w.heap.size + 1) 0 (.int .i64 0)) (by omega) HBf.out.size)).trans (below_row (grown_setc (w9.setCell ⟨(w.heap.size + 1), 0, none⟩ (.int .i64 0)) (w.heap.size + 1 + 1) 0 (.int .i64 0)) (by omega) (by have := HBf.out.size; simp [World.setCell]; omega)))
  simp [Leaves, settle, results, Tryz.results37, go_sem, r0, r1, r2, r3, r4, r5, r6, r7, r8, c3, c4]
  exact ⟨rfl, g10.out⟩
end Go.Proofs.YtdiioecpponnmaaGreatDoor
/- The record {a: flag} is right, and a is found in it. -/
set_option linter.unusedVariables false
namespace Go.Proofs.YtdiioecpponnmaaGreatDoor
open Go.RowKit

def fdL : List Value := [.string ⟨#[97]⟩, .int .i64 3, .string ⟨#[]⟩, .int .i64 1]
theorem nan_any (s : ByteArray) (w : World) : Calls Tryz.prog 145 #[.string s] w fun e w' => e = .returned (.bool false) ∧ w = w' := by
  go_enter Tryz.func145, Tryz.ntmps145
  go_wp2
  go_ret
  exact ⟨ret_bool (by simp), rfl⟩
theorem cmp_a (w : World) : Calls Tryz.prog 125 #[.string ⟨#[97]⟩, .string ⟨#[97]⟩] w fun e w' => e = .returned (.int .i64 0) ∧ w = w' := by
  go_enter Tryz.func125, Tryz.ntmps125
  go_wp2_with fail
  with_reducible refine (nan_any _ _).mono ?_
  rintro e w1 ⟨rfl, rfl⟩
  go_wp2_with fail
  with_reducible refine (nan_any _ _).mono ?_
  rintro e w1 ⟨rfl, rfl⟩
  go_wp2
  go_ret
  exact ⟨rfl, rfl⟩
set_option maxHeartbeats 1000000 in
theorem find1_a (w : World) : Calls Tryz.prog 124 #[.agg #[.string ⟨#[97]⟩, .int .i64 3, .string ⟨#[]⟩, .int .i64 1], .string ⟨#[97]⟩] w fun e w' => e = .returned (.int .i64 0) ∧ Below w.heap.size w w' := by
  have HB := Lib.hid ((Below.refl w.heap.size w).alloc (Nat.le_refl _) (.cells #[.string ⟨#[97]⟩, .int .i64 3, .string ⟨#[]⟩, .int .i64 1] 54))
  go_enter Tryz.func124, Tryz.ntmps124
  go_wp2_with fail
  with_reducible refine (cmp_a _).mono ?_
  rintro e w1 ⟨rfl, rfl⟩
  go_wp2_with fail
  go_ret
  exact ⟨rfl, HB.out⟩
set_option maxHeartbeats 1000000 in
theorem bsf_a (h : Nat) (w : World) (ho : OB w h fdL 54) : Calls Tryz.prog 123 #[.slice (some ⟨h, 0, none⟩) 1 1, .string ⟨#[97]⟩, .func (.func 124) #[] #[]] w fun e w' => e = .returned (.tuple #[.int .i64 0, .bool true]) ∧ Below w.heap.size w w' := by
  have HO := Lib.hid ho
  have y0 := ho.cell 0 _ rfl
  have y1 := ho.cell 1 _ rfl
  have y2 := ho.cell 2 _ rfl
  have y3 := ho.cell 3 _ rfl
  have yl := ho.lt
  clear ho
  go_enter Tryz.func123, Tryz.ntmps123
  go_upto_block 0 with (fail)
  go_cut [9] (fun v wx => v = .int .i64 0 ∧ Below w.heap.size w wx)
  case first =>
    go_wp2_with fail
    go_loopw [9, 10] (fun v u wr => v = .int .i64 0 ∧ ((u = .int .i64 1 ∧ wr = w) ∨ (u = .int .i64 0 ∧ Below w.heap.size w wr))) (fun _ u _ => (intOf u).toNat)
    case atStart => exact ⟨rfl, .inl ⟨rfl, rfl⟩⟩
    case round =>
      obtain ⟨rfl, ⟨rfl, rfl⟩ | ⟨rfl, hb⟩⟩ := hrel
      · go_wp2_with fail
        with_reducible refine (find1_a _).mono ?_
        rintro e w1 ⟨rfl, hb⟩
        go_wp2_with fail
        go_roundw
        case rel => exact ⟨rfl, .inr ⟨rfl, hb⟩⟩
        case measure => simp [intOf]
      · go_wp2_with fail
        go_meet
        exact ⟨rfl, hb⟩
  case rest =>
  obtain ⟨rfl, hb⟩ := hcut
  have HO2 := Lib.hid (HO.out.below hb)
  clear HO y0 y1 y2 y3 yl
  have y0 := HO2.out.cell 0 _ rfl
  have y1 := HO2.out.cell 1 _ rfl
  have y2 := HO2.out.cell 2 _ rfl
  have y3 := HO2.out.cell 3 _ rfl
  have yl := HO2.out.lt
  have HB := Lib.hid hb
  clear hb
  go_wp2_with fail
  with_reducible refine (find1_a _).mono ?_
  rintro e w1 ⟨rfl, hb1⟩
  have HB1 := Lib.hid (HB.out.trans (hb1.mono HB.out.size))
  clear hb1
  go_wp2_with fail
  go_ret2
  exact ⟨rfl, HB1.out⟩
set_option maxHeartbeats 1000000 in
theorem checkFields_a (h : Nat) (w : World) (hT : Tbs w) (ho : OB w h fdL 54) : Calls Tryz.prog 118 #[.slice (some ⟨h, 0, none⟩) 1 1] w (IntO w 0) := by
  have y0 := ho.cell 0 _ rfl
  have y1 := ho.cell 1 _ rfl
  have y2 := ho.cell 2 _ rfl
  have y3 := ho.cell 3 _ rfl
  have yl := ho.lt
  have HT := Lib.hid hT
  clear ho hT
  go_enter Tryz.func118, Tryz.ntmps118
  go_upto_block 0 with (fail)
  go_cut [] (fun wx => Below w.heap.size w wx)
  case first =>
    go_wp2_with fail
    go_loopw [11] (fun u wr => (u = .int .i64 0 ∧ wr = w) ∨ (u = .int .i64 1 ∧ Below w.heap.size w wr)) (fun u _ => 1 - (intOf u).toNat)
    case atStart => exact .inl ⟨rfl, rfl⟩
    case round =>
      obtain ⟨rfl, rfl⟩ | ⟨rfl, hb⟩ := hrel
      · have CK : Hid (∀ w, Calls Tryz.prog 69 #[.string ⟨#[97]⟩] w fun e w' => e = .returned (.bool true) ∧ w = w') := Lib.hid (fun w => by
          have := isKey_any ⟨#[97]⟩ w (by decide)
          rw [show keyB ⟨#[97]⟩ = true by decide] at this
          exact this)
        have CV : Hid (∀ w, Tbs w → Calls Tryz.prog 46 #[.agg #[.int .i64 3, .string ⟨#[]⟩, .int .i64 1]] w (IntO w 0)) := Lib.hid (fun w h => by
          have := checkValue_any ⟨3, ⟨#[]⟩, 1⟩ w ⟨by unfold i64B; decide, by decide, by unfold i64B; decide⟩ h
          rw [show vlE ⟨3, ⟨#[]⟩, 1⟩ = 0 by decide] at this
          exact this)
        have HTa := Lib.hid (HT.out.alloc (.cells #[.string ⟨#[97]⟩, .int .i64 3, .string ⟨#[]⟩, .int .i64 1] 54))
        have HBa := Lib.hid ((Below.refl wr.heap.size wr).alloc (Nat.le_refl _) (.cells #[.string ⟨#[97]⟩, .int .i64 3, .string ⟨#[]⟩, .int .i64 1] 54))
        go_wp2_with fail
        with_reducible refine (CK.out _).mono ?_
        rintro e w1 ⟨rfl, rfl⟩
        go_wp2_with fail
        with_reducible refine (CV.out _ HTa.out).mono ?_
        rintro e w1 ⟨rfl, hb1⟩
        have HB1 := Lib.hid (HBa.out.trans (hb1.mono HBa.out.size))
        clear hb1 HTa HBa CK CV
        go_upto_region 11 with (fail)
        go_quiet (fail)
        go_wp2_with fail
        go_roundw
        case rel => exact .inr ⟨rfl, ⟨HB1.out.os, HB1.out.tape, HB1.out.output, HB1.out.size, HB1.out.block⟩⟩
        case measure => simp [intOf]
      · go_wp2_with fail
        go_meet
        exact hb
  case rest =>
  have HB := Lib.hid hcut
  go_wp2_with fail
  go_ret
  exact ⟨rfl, HB.out⟩
end Go.Proofs.YtdiioecpponnmaaGreatDoor
/- segment.Holds at "has a" and {a: flag}; handlaw1.segments (printed by gen_seg.py). -/
set_option linter.unusedVariables false
namespace Go.Proofs.YtdiioecpponnmaaGreatDoor
open Go.RowKit

set_option maxRecDepth 100000 in
set_option maxHeartbeats 1000000 in
theorem find_a (h : Nat) (w : World) (ho : OB w h fdL 54) : Calls Tryz.prog 98 #[.slice (some ⟨h, 0, none⟩) 1 1, .string ⟨#[97]⟩] w fun e w' => e = .returned (.tuple #[.agg #[.int .i64 3, .string ⟨#[]⟩, .int .i64 1], .bool true]) ∧ Below w.heap.size w w' := by
  have HO := Lib.hid (ho.alloc (.cells #[.int .i64 0, .string ⟨#[]⟩, .int .i64 0] 47))
  have HN := Lib.hid (show OB (w.alloc (.cells #[.int .i64 0, .string ⟨#[]⟩, .int .i64 0] 47)) w.heap.size [.int .i64 0, .string ⟨#[]⟩, .int .i64 0] 47 from OB.new w [.int .i64 0, .string ⟨#[]⟩, .int .i64 0] 47)
  have HB := Lib.hid ((Below.refl w.heap.size w).alloc (Nat.le_refl _) (.cells #[.int .i64 0, .string ⟨#[]⟩, .int .i64 0] 47))
  have hl := ho.lt
  clear ho
  go_enter Tryz.func98, Tryz.ntmps98
  go_wp2_with fail
  generalize w.alloc (.cells #[.int .i64 0, .string ⟨#[]⟩, .int .i64 0] 47) = w1 at *
  have C := Lib.hid (bsf_a h w1 HO.out)
  with_reducible refine C.out.mono ?_
  rintro e w2 ⟨rfl, b2⟩
  have HO2 := Lib.hid (HO.out.below b2)
  have HN2 := Lib.hid (HN.out.below b2)
  have HB2 := Lib.hid (HB.out.trans (b2.mono HB.out.size))
  clear b2 C HO HN HB
  have y0 := HO2.out.cell 0 _ rfl
  have y1 := HO2.out.cell 1 _ rfl
  have y2 := HO2.out.cell 2 _ rfl
  have y3 := HO2.out.cell 3 _ rfl
  have yl := HO2.out.lt
  go_wp2_with (refine wpList_store_oc _ rfl _ _ _ rfl w.heap.size _ [.int .i64 3, .string ⟨#[]⟩, .int .i64 1] _ rfl rfl HN2.out sizeValue rfl rfl ?_)
  intro wz oz kz
  have r0 := oz.cell 0 _ rfl
  have r1 := oz.cell 1 _ rfl
  have r2 := oz.cell 2 _ rfl
  have HBz := Lib.hid (HB2.out.trans (below_row kz (Nat.le_refl _) HB2.out.size))
  clear oz kz y0 y1 y2 y3 yl HO2 HN2
  go_wp2_with fail
  refine bodyPost_ret (v := .tuple #[.agg #[.int .i64 3, .string ⟨#[]⟩, .int .i64 1], .bool true]) (by simp [results, Tryz.results98, go_sem, r0, r1, r2]) rfl ?_
  exact ⟨rfl, HBz.out⟩
set_option maxRecDepth 100000 in
set_option maxHeartbeats 1000000 in
theorem sw_610 (w : World) : Calls Tryz.prog 48 #[.int .i64 6, .int .i64 6, .int .i64 10] w fun e w' => e = .returned (.bool true) ∧ w = w' := by
  go_enter Tryz.func48, Tryz.ntmps48
  go_wp2
  go_ret
  exact ⟨rfl, rfl⟩
set_option maxRecDepth 100000 in
set_option maxHeartbeats 1000000 in
theorem sw_0 (w : World) : Calls Tryz.prog 48 #[.int .i64 0, .int .i64 0, .int .i64 4321439] w fun e w' => e = .returned (.bool true) ∧ w = w' := by
  go_enter Tryz.func48, Tryz.ntmps48
  go_wp2
  go_ret
  exact ⟨rfl, rfl⟩
set_option maxRecDepth 100000 in
set_option maxHeartbeats 1000000 in
theorem ofRec_a (w : World) : Calls Tryz.prog 93 #[.agg #[.int .i64 6, .string ⟨#[97]⟩, .string ⟨#[]⟩, .string ⟨#[]⟩, .slice none 0 0, .slice none 0 0, .int .i64 0, .int .i64 0, .slice none 0 0]] w fun e w' => e = .returned (.bool true) ∧ Below w.heap.size w w' := by
  have HB := Lib.hid ((Below.refl w.heap.size w).alloc (Nat.le_refl _) (.cells #[.int .i64 6, .string ⟨#[97]⟩, .string ⟨#[]⟩, .string ⟨#[]⟩, .slice none 0 0, .slice none 0 0, .int .i64 0, .int .i64 0, .slice none 0 0] 30))
  go_enter Tryz.func93, Tryz.ntmps93
  go_wp2_with fail
  with_reducible refine (sw_610 _).mono ?_
  rintro e w1 ⟨rfl, rfl⟩
  go_wp2_with fail
  go_ret
  exact ⟨rfl, HB.out⟩
set_option maxRecDepth 100000 in
set_option maxHeartbeats 1000000 in
theorem ofField_a (h : Nat) (w : World) (ho : OB w h fdL 54) : Calls Tryz.prog 94 #[.agg #[.int .i64 6, .string ⟨#[97]⟩, .string ⟨#[]⟩, .string ⟨#[]⟩, .slice none 0 0, .slice none 0 0, .int .i64 0, .int .i64 0, .slice none 0 0], .slice (some ⟨h, 0, none⟩) 1 1] w fun e w' => e = .returned (.bool true) ∧ Below w.heap.size w w' := by
  have HO := Lib.hid (ho.alloc (.cells #[.int .i64 6, .string ⟨#[97]⟩, .string ⟨#[]⟩, .string ⟨#[]⟩, .slice none 0 0, .slice none 0 0, .int .i64 0, .int .i64 0, .slice none 0 0] 30))
  have HN := Lib.hid (show OB (w.alloc (.cells #[.int .i64 6, .string ⟨#[97]⟩, .string ⟨#[]⟩, .string ⟨#[]⟩, .slice none 0 0, .slice none 0 0, .int .i64 0, .int .i64 0, .slice none 0 0] 30)) w.heap.size [.int .i64 6, .string ⟨#[97]⟩, .string ⟨#[]⟩, .string ⟨#[]⟩, .slice none 0 0, .slice none 0 0, .int .i64 0, .int .i64 0, .slice none 0 0] 30 from OB.new w [.int .i64 6, .string ⟨#[97]⟩, .string ⟨#[]⟩, .string ⟨#[]⟩, .slice none 0 0, .slice none 0 0, .int .i64 0, .int .i64 0, .slice none 0 0] 30)
  have HB := Lib.hid ((Below.refl w.heap.size w).alloc (Nat.le_refl _) (.cells #[.int .i64 6, .string ⟨#[97]⟩, .string ⟨#[]⟩, .string ⟨#[]⟩, .slice none 0 0, .slice none 0 0, .int .i64 0, .int .i64 0, .slice none 0 0] 30))
  clear ho
  go_enter Tryz.func94, Tryz.ntmps94
  go_wp2_with fail
  generalize w.alloc (.cells #[.int .i64 6, .string ⟨#[97]⟩, .string ⟨#[]⟩, .string ⟨#[]⟩, .slice none 0 0, .slice none 0 0, .int .i64 0, .int .i64 0, .slice none 0 0] 30) = w1 at *
  have C := Lib.hid (find_a h w1 HO.out)
  with_reducible refine C.out.mono ?_
  rintro e w2 ⟨rfl, b2⟩
  have HN2 := Lib.hid ((HN.out.below b2).alloc (.cells #[.int .i64 3, .string ⟨#[]⟩, .int .i64 1] 47))
  have HB2 := Lib.hid ((HB.out.trans (b2.mono HB.out.size)).alloc (Nat.le_trans HB.out.size b2.size) (.cells #[.int .i64 3, .string ⟨#[]⟩, .int .i64 1] 47))
  clear b2 C HO HN HB
  have y0 := HN2.out.cell 0 _ rfl
  have yl := HN2.out.lt
  go_wp2_with fail
  go_ret
  exact ⟨rfl, HB2.out⟩
set_option maxRecDepth 100000 in
set_option maxHeartbeats 1000000 in
theorem check_nil (w : World) : Calls Tryz.prog 119 #[.slice none 0 0] w (IntO w 0) := by
  have hmm := @run_makeMap Tryz.prog
  go_enter Tryz.func119, Tryz.ntmps119
  go_upto_block 0 with (fail)
  go_cut [] (fun wx => Below w.heap.size w wx)
  case first =>
    go_wp2_with fail
    go_loopw [13] (fun u wr => u = .int .i64 0 ∧ Below w.heap.size w wr) (fun _ _ => 0)
    case atStart => exact ⟨rfl, (Below.refl w.heap.size w).alloc (Nat.le_refl _) _⟩
    case round =>
      obtain ⟨rfl, hb⟩ := hrel
      go_wp2_with fail
      go_meet
      exact hb
  case rest =>
  have HB := Lib.hid hcut
  go_wp2_with fail
  go_ret
  exact ⟨rfl, HB.out⟩
set_option maxRecDepth 100000 in
set_option maxHeartbeats 1000000 in
theorem checkFor_a (h : Nat) (w : World) (ho : OB w h fdL 54) (hT : Tbs w) : Calls Tryz.prog 92 #[.agg #[.int .i64 6, .string ⟨#[97]⟩, .string ⟨#[]⟩, .string ⟨#[]⟩, .slice none 0 0, .slice none 0 0, .int .i64 0, .int .i64 0, .slice none 0 0], .slice (some ⟨h, 0, none⟩) 1 1, .slice none 0 0] w (IntO w 0) := by
  have CC : Hid (∀ w, Tbs w → Calls Tryz.prog 8 #[.agg #[.int .i64 6, .string ⟨#[97]⟩, .string ⟨#[]⟩, .string ⟨#[]⟩, .slice none 0 0, .slice none 0 0, .int .i64 0, .int .i64 0, .slice none 0 0]] w (IntO w 0)) := Lib.hid (fun w h => by rw [← hasC_E]; exact checkCond_any 1 hasC w (hasC_at _) h)
  have HO1 := Lib.hid (ho.alloc (.cells #[.int .i64 6, .string ⟨#[97]⟩, .string ⟨#[]⟩, .string ⟨#[]⟩, .slice none 0 0, .slice none 0 0, .int .i64 0, .int .i64 0, .slice none 0 0] 30))
  have HT1 := Lib.hid (hT.alloc (.cells #[.int .i64 6, .string ⟨#[97]⟩, .string ⟨#[]⟩, .string ⟨#[]⟩, .slice none 0 0, .slice none 0 0, .int .i64 0, .int .i64 0, .slice none 0 0] 30))
  have HB1 := Lib.hid ((Below.refl w.heap.size w).alloc (Nat.le_refl _) (.cells #[.int .i64 6, .string ⟨#[97]⟩, .string ⟨#[]⟩, .string ⟨#[]⟩, .slice none 0 0, .slice none 0 0, .int .i64 0, .int .i64 0, .slice none 0 0] 30))
  have HN1 := Lib.hid (show OB (w.alloc (.cells #[.int .i64 6, .string ⟨#[97]⟩, .string ⟨#[]⟩, .string ⟨#[]⟩, .slice none 0 0, .slice none 0 0, .int .i64 0, .int .i64 0, .slice none 0 0] 30)) w.heap.size [.int .i64 6, .string ⟨#[97]⟩, .string ⟨#[]⟩, .string ⟨#[]⟩, .slice none 0 0, .slice none 0 0, .int .i64 0, .int .i64 0, .slice none 0 0] 30 from OB.new w [.int .i64 6, .string ⟨#[97]⟩, .string ⟨#[]⟩, .string ⟨#[]⟩, .slice none 0 0, .slice none 0 0, .int .i64 0, .int .i64 0, .slice none 0 0] 30)
  clear ho hT
  go_enter Tryz.func92, Tryz.ntmps92
  go_upto_region 1 with (fail)
  generalize w.alloc (.cells #[.int .i64 6, .string ⟨#[97]⟩, .string ⟨#[]⟩, .string ⟨#[]⟩, .slice none 0 0, .slice none 0 0, .int .i64 0, .int .i64 0, .slice none 0 0] 30) = w1 at *
  have y0 := HN1.out.cell 0 _ rfl
  have y1 := HN1.out.cell 1 _ rfl
  have y2 := HN1.out.cell 2 _ rfl
  have y3 := HN1.out.cell 3 _ rfl
  have y4 := HN1.out.cell 4 _ rfl
  have y5 := HN1.out.cell 5 _ rfl
  have y6 := HN1.out.cell 6 _ rfl
  have y7 := HN1.out.cell 7 _ rfl
  have y8 := HN1.out.cell 8 _ rfl
  have yl := HN1.out.lt
  go_wp2_with fail
  have C := Lib.hid (CC.out w1 HT1.out)
  with_reducible refine C.out.mono ?_
  rintro e w2 ⟨rfl, b⟩
  have HO2 := Lib.hid (HO1.out.below b)
  have HT2 := Lib.hid (HT1.out.below b)
  have HB2 := Lib.hid (HB1.out.trans (b.mono HB1.out.size))
  clear b C HO1 HT1 HB1
  clear y0 y1 y2 y3 y4 y5 y6 y7 y8 yl
  go_wp2_with fail
  have C := Lib.hid (checkFields_a h w2 HT2.out HO2.out)
  with_reducible refine C.out.mono ?_
  rintro e w3 ⟨rfl, b⟩
  have HO3 := Lib.hid (HO2.out.below b)
  have HT3 := Lib.hid (HT2.out.below b)
  have HB3 := Lib.hid (HB2.out.trans (b.mono HB2.out.size))
  clear b C HO2 HT2 HB2
  go_wp2_with fail
  have C := Lib.hid (check_nil w3)
  with_reducible refine C.out.mono ?_
  rintro e w4 ⟨rfl, b⟩
  have HO4 := Lib.hid (HO3.out.below b)
  have HT4 := Lib.hid (HT3.out.below b)
  have HB4 := Lib.hid (HB3.out.trans (b.mono HB3.out.size))
  clear b C HO3 HT3 HB3
  go_wp2_with fail
  go_ret
  exact ⟨rfl, HB4.out⟩
set_option maxRecDepth 100000 in
set_option maxHeartbeats 1000000 in
theorem checkAll_a (h : Nat) (w : World) (ho : OB w h fdL 54) (hT : Tbs w) : Calls Tryz.prog 65 #[.agg #[.int .i64 6, .string ⟨#[97]⟩, .string ⟨#[]⟩, .string ⟨#[]⟩, .slice none 0 0, .slice none 0 0, .int .i64 0, .int .i64 0, .slice none 0 0], .slice (some ⟨h, 0, none⟩) 1 1, .slice none 0 0, .int .i64 0] w (IntO w 0) := by
  have HO1 := Lib.hid (ho.alloc (.cells #[.int .i64 6, .string ⟨#[97]⟩, .string ⟨#[]⟩, .string ⟨#[]⟩, .slice none 0 0, .slice none 0 0, .int .i64 0, .int .i64 0, .slice none 0 0] 30))
  have HT1 := Lib.hid (hT.alloc (.cells #[.int .i64 6, .string ⟨#[97]⟩, .string ⟨#[]⟩, .string ⟨#[]⟩, .slice none 0 0, .slice none 0 0, .int .i64 0, .int .i64 0, .slice none 0 0] 30))
  have HB1 := Lib.hid ((Below.refl w.heap.size w).alloc (Nat.le_refl _) (.cells #[.int .i64 6, .string ⟨#[97]⟩, .string ⟨#[]⟩, .string ⟨#[]⟩, .slice none 0 0, .slice none 0 0, .int .i64 0, .int .i64 0, .slice none 0 0] 30))
  have HN1 := Lib.hid (show OB (w.alloc (.cells #[.int .i64 6, .string ⟨#[97]⟩, .string ⟨#[]⟩, .string ⟨#[]⟩, .slice none 0 0, .slice none 0 0, .int .i64 0, .int .i64 0, .slice none 0 0] 30)) w.heap.size [.int .i64 6, .string ⟨#[97]⟩, .string ⟨#[]⟩, .string ⟨#[]⟩, .slice none 0 0, .slice none 0 0, .int .i64 0, .int .i64 0, .slice none 0 0] 30 from OB.new w [.int .i64 6, .string ⟨#[97]⟩, .string ⟨#[]⟩, .string ⟨#[]⟩, .slice none 0 0, .slice none 0 0, .int .i64 0, .int .i64 0, .slice none 0 0] 30)
  clear ho hT
  go_enter Tryz.func65, Tryz.ntmps65
  go_upto_region 1 with (fail)
  generalize w.alloc (.cells #[.int .i64 6, .string ⟨#[97]⟩, .string ⟨#[]⟩, .string ⟨#[]⟩, .slice none 0 0, .slice none 0 0, .int .i64 0, .int .i64 0, .slice none 0 0] 30) = w1 at *
  have y0 := HN1.out.cell 0 _ rfl
  have y1 := HN1.out.cell 1 _ rfl
  have y2 := HN1.out.cell 2 _ rfl
  have y3 := HN1.out.cell 3 _ rfl
  have y4 := HN1.out.cell 4 _ rfl
  have y5 := HN1.out.cell 5 _ rfl
  have y6 := HN1.out.cell 6 _ rfl
  have y7 := HN1.out.cell 7 _ rfl
  have y8 := HN1.out.cell 8 _ rfl
  have yl := HN1.out.lt
  go_wp2_with fail
  have C := Lib.hid (checkFor_a h w1 HO1.out HT1.out)
  with_reducible refine C.out.mono ?_
  rintro e w2 ⟨rfl, b⟩
  have HO2 := Lib.hid (HO1.out.below b)
  have HT2 := Lib.hid (HT1.out.below b)
  have HB2 := Lib.hid (HB1.out.trans (b.mono HB1.out.size))
  clear b C HO1 HT1 HB1
  clear y0 y1 y2 y3 y4 y5 y6 y7 y8 yl
  go_wp2_with fail
  with_reducible refine (sw_0 _).mono ?_
  rintro e w3 ⟨rfl, rfl⟩
  go_wp2_with fail
  go_ret
  exact ⟨rfl, HB2.out⟩
set_option maxRecDepth 100000 in
set_option maxHeartbeats 4000000 in
theorem build_a (h : Nat) (w : World) (ho : OB w h fdL 54) : Calls Tryz.prog 66 #[.agg #[.int .i64 6, .string ⟨#[97]⟩, .string ⟨#[]⟩, .string ⟨#[]⟩, .slice none 0 0, .slice none 0 0, .int .i64 0, .int .i64 0, .slice none 0 0], .slice (some ⟨h, 0, none⟩) 1 1, .slice none 0 0] w fun e w' => ∃ p, e = .returned (.pointer (some ⟨p, 0, none⟩)) ∧ OB w' p [.int .i64 6, .string ⟨#[97]⟩, .string ⟨#[]⟩, .string ⟨#[]⟩, .slice none 0 0, .slice none 0 0, .int .i64 0, .int .i64 0, .slice none 0 0, .slice none 0 0, .bool true, .slice none 0 0, .slice none 0 0, .int .i64 0] 136 ∧ Below w.heap.size w w' := by
  have HO1 := Lib.hid ((ho.alloc (.cells #[.int .i64 6, .string ⟨#[97]⟩, .string ⟨#[]⟩, .string ⟨#[]⟩, .slice none 0 0, .slice none 0 0, .int .i64 0, .int .i64 0, .slice none 0 0] 30)).alloc (.cells #[.int .i64 6, .string ⟨#[97]⟩, .string ⟨#[]⟩, .string ⟨#[]⟩, .slice none 0 0, .slice none 0 0, .int .i64 0, .int .i64 0, .slice none 0 0, .slice none 0 0, .bool false, .slice none 0 0, .slice none 0 0, .int .i64 0] 136))
  have HB1 := Lib.hid (((Below.refl w.heap.size w).alloc (Nat.le_refl _) (.cells #[.int .i64 6, .string ⟨#[97]⟩, .string ⟨#[]⟩, .string ⟨#[]⟩, .slice none 0 0, .slice none 0 0, .int .i64 0, .int .i64 0, .slice none 0 0] 30)).alloc (by simp [World.size_alloc]) (.cells #[.int .i64 6, .string ⟨#[97]⟩, .string ⟨#[]⟩, .string ⟨#[]⟩, .slice none 0 0, .slice none 0 0, .int .i64 0, .int .i64 0, .slice none 0 0, .slice none 0 0, .bool false, .slice none 0 0, .slice none 0 0, .int .i64 0] 136))
  have HN1 := Lib.hid ((show OB (w.alloc (.cells #[.int .i64 6, .string ⟨#[97]⟩, .string ⟨#[]⟩, .string ⟨#[]⟩, .slice none 0 0, .slice none 0 0, .int .i64 0, .int .i64 0, .slice none 0 0] 30)) w.heap.size [.int .i64 6, .string ⟨#[97]⟩, .string ⟨#[]⟩, .string ⟨#[]⟩, .slice none 0 0, .slice none 0 0, .int .i64 0, .int .i64 0, .slice none 0 0] 30 from OB.new w [.int .i64 6, .string ⟨#[97]⟩, .string ⟨#[]⟩, .string ⟨#[]⟩, .slice none 0 0, .slice none 0 0, .int .i64 0, .int .i64 0, .slice none 0 0] 30).alloc (.cells #[.int .i64 6, .string ⟨#[97]⟩, .string ⟨#[]⟩, .string ⟨#[]⟩, .slice none 0 0, .slice none 0 0, .int .i64 0, .int .i64 0, .slice none 0 0, .slice none 0 0, .bool false, .slice none 0 0, .slice none 0 0, .int .i64 0] 136))
  have hp := OB.new (w.alloc (.cells #[.int .i64 6, .string ⟨#[97]⟩, .string ⟨#[]⟩, .string ⟨#[]⟩, .slice none 0 0, .slice none 0 0, .int .i64 0, .int .i64 0, .slice none 0 0] 30)) [.int .i64 6, .string ⟨#[97]⟩, .string ⟨#[]⟩, .string ⟨#[]⟩, .slice none 0 0, .slice none 0 0, .int .i64 0, .int .i64 0, .slice none 0 0, .slice none 0 0, .bool false, .slice none 0 0, .slice none 0 0, .int .i64 0] 136
  rw [World.size_alloc] at hp
  have HP1 := Lib.hid (show OB ((w.alloc (.cells #[.int .i64 6, .string ⟨#[97]⟩, .string ⟨#[]⟩, .string ⟨#[]⟩, .slice none 0 0, .slice none 0 0, .int .i64 0, .int .i64 0, .slice none 0 0] 30)).alloc (.cells #[.int .i64 6, .string ⟨#[97]⟩, .string ⟨#[]⟩, .string ⟨#[]⟩, .slice none 0 0, .slice none 0 0, .int .i64 0, .int .i64 0, .slice none 0 0, .slice none 0 0, .bool false, .slice none 0 0, .slice none 0 0, .int .i64 0] 136)) (w.heap.size + 1) [.int .i64 6, .string ⟨#[97]⟩, .string ⟨#[]⟩, .string ⟨#[]⟩, .slice none 0 0, .slice none 0 0, .int .i64 0, .int .i64 0, .slice none 0 0, .slice none 0 0, .bool false, .slice none 0 0, .slice none 0 0, .int .i64 0] 136 from hp)
  clear ho hp
  go_enter Tryz.func66, Tryz.ntmps66
  go_upto_region 2 with (fail)
  generalize (w.alloc (.cells #[.int .i64 6, .string ⟨#[97]⟩, .string ⟨#[]⟩, .string ⟨#[]⟩, .slice none 0 0, .slice none 0 0, .int .i64 0, .int .i64 0, .slice none 0 0] 30)).alloc (.cells #[.int .i64 6, .string ⟨#[97]⟩, .string ⟨#[]⟩, .string ⟨#[]⟩, .slice none 0 0, .slice none 0 0, .int .i64 0, .int .i64 0, .slice none 0 0, .slice none 0 0, .bool false, .slice none 0 0, .slice none 0 0, .int .i64 0] 136) = w1 at *
  have y0 := HN1.out.cell 0 _ rfl
  have y1 := HN1.out.cell 1 _ rfl
  have y2 := HN1.out.cell 2 _ rfl
  have y3 := HN1.out.cell 3 _ rfl
  have y4 := HN1.out.cell 4 _ rfl
  have y5 := HN1.out.cell 5 _ rfl
  have y6 := HN1.out.cell 6 _ rfl
  have y7 := HN1.out.cell 7 _ rfl
  have y8 := HN1.out.cell 8 _ rfl
  have yl := HN1.out.lt
  go_upto_block 0 with (fail)
  go_cut [] (fun wx => w1 = wx)
  case first =>
    go_wp2_with fail
    go_loopw [21] (fun u wr => u = .int .i64 0 ∧ w1 = wr) (fun _ _ => 0)
    case atStart => exact ⟨rfl, rfl⟩
    case round =>
      obtain ⟨rfl, rfl⟩ := hrel
      go_wp2_with fail
      go_meet
      first | trivial | rfl
  case rest =>
  obtain rfl := hcut
  go_upto_block 2 with (fail)
  go_cut [] (fun wx => OB wx (w.heap.size + 1) [.int .i64 6, .string ⟨#[97]⟩, .string ⟨#[]⟩, .string ⟨#[]⟩, .slice none 0 0, .slice none 0 0, .int .i64 0, .int .i64 0, .slice none 0 0, .slice none 0 0, .bool true, .slice none 0 0, .slice none 0 0, .int .i64 0] 136 ∧ Below w.heap.size w wx)
  case first =>
    go_wp2_with fail
    have C := Lib.hid (ofRec_a w1)
    with_reducible refine C.out.mono ?_
    rintro e w2 ⟨rfl, b⟩
    have HO2 := Lib.hid (HO1.out.below b)
    have HN2 := Lib.hid (HN1.out.below b)
    have HP2 := Lib.hid (HP1.out.below b)
    have HB2 := Lib.hid (HB1.out.trans (b.mono HB1.out.size))
    clear b C HO1 HN1 HP1 HB1 y0 y1 y2 y3 y4 y5 y6 y7 y8 yl
    have y0 := HN2.out.cell 0 _ rfl
    have y1 := HN2.out.cell 1 _ rfl
    have y2 := HN2.out.cell 2 _ rfl
    have y3 := HN2.out.cell 3 _ rfl
    have y4 := HN2.out.cell 4 _ rfl
    have y5 := HN2.out.cell 5 _ rfl
    have y6 := HN2.out.cell 6 _ rfl
    have y7 := HN2.out.cell 7 _ rfl
    have y8 := HN2.out.cell 8 _ rfl
    have yl := HN2.out.lt
    go_wp2_with fail
    have C := Lib.hid (ofField_a h w2 HO2.out)
    with_reducible refine C.out.mono ?_
    rintro e w3 ⟨rfl, b⟩
    have HP3 := Lib.hid (HP2.out.below b)
    have HB3 := Lib.hid (HB2.out.trans (b.mono HB2.out.size))
    clear b C HO2 HN2 HP2 HB2 y0 y1 y2 y3 y4 y5 y6 y7 y8 yl
    have c10 := HP3.out.cell 10 _ rfl
    have z10 := HP3.out.free 10
    have pl := HP3.out.lt
    go_wp2_with fail
    go_meet
    exact ⟨OB.put HP3.out 10 (.bool true) rfl, HB3.out.trans (below_row (grown_setc _ _ _ _) (Nat.le_succ _) HB3.out.size)⟩
  case rest =>
  have HR := Lib.hid hcut
  go_wp2_with fail
  go_ret
  exact ⟨_, rfl, HR.out.1, HR.out.2⟩
set_option maxRecDepth 100000 in
set_option maxHeartbeats 1000000 in
theorem at_a (p : Nat) (w : World) (ho : OB w p [.int .i64 6, .string ⟨#[97]⟩, .string ⟨#[]⟩, .string ⟨#[]⟩, .slice none 0 0, .slice none 0 0, .int .i64 0, .int .i64 0, .slice none 0 0, .slice none 0 0, .bool true, .slice none 0 0, .slice none 0 0, .int .i64 0] 136) : Calls Tryz.prog 67 #[.pointer (some ⟨p, 0, none⟩), .int .i64 0] w fun e w' => e = .returned (.bool true) ∧ Below w.heap.size w w' := by
  have y0 := ho.cell 0 _ rfl
  have y10 := ho.cell 10 _ rfl
  have yl := ho.lt
  have HB := Lib.hid ((Below.refl w.heap.size w).alloc (Nat.le_refl _) (.cells #[.int .i64 0] 3))
  clear ho
  go_enter Tryz.func67, Tryz.ntmps67
  go_wp2_with fail
  go_ret
  exact ⟨rfl, HB.out⟩
set_option maxRecDepth 100000 in
set_option maxHeartbeats 1000000 in
theorem is_a (h : Nat) (w : World) (ho : OB w h fdL 54) (hT : Tbs w) : Calls Tryz.prog 38 #[.agg #[.int .i64 6, .string ⟨#[97]⟩, .string ⟨#[]⟩, .string ⟨#[]⟩, .slice none 0 0, .slice none 0 0, .int .i64 0, .int .i64 0, .slice none 0 0], .slice (some ⟨h, 0, none⟩) 1 1, .slice none 0 0, .int .i64 0] w fun e w' => e = .returned (.tuple #[.bool true, .int .i64 0]) ∧ Below w.heap.size w w' := by
  have HO1 := Lib.hid (ho.alloc (.cells #[.int .i64 6, .string ⟨#[97]⟩, .string ⟨#[]⟩, .string ⟨#[]⟩, .slice none 0 0, .slice none 0 0, .int .i64 0, .int .i64 0, .slice none 0 0] 30))
  have HT1 := Lib.hid (hT.alloc (.cells #[.int .i64 6, .string ⟨#[97]⟩, .string ⟨#[]⟩, .string ⟨#[]⟩, .slice none 0 0, .slice none 0 0, .int .i64 0, .int .i64 0, .slice none 0 0] 30))
  have HB1 := Lib.hid ((Below.refl w.heap.size w).alloc (Nat.le_refl _) (.cells #[.int .i64 6, .string ⟨#[97]⟩, .string ⟨#[]⟩, .string ⟨#[]⟩, .slice none 0 0, .slice none 0 0, .int .i64 0, .int .i64 0, .slice none 0 0] 30))
  have HN1 := Lib.hid (show OB (w.alloc (.cells #[.int .i64 6, .string ⟨#[97]⟩, .string ⟨#[]⟩, .string ⟨#[]⟩, .slice none 0 0, .slice none 0 0, .int .i64 0, .int .i64 0, .slice none 0 0] 30)) w.heap.size [.int .i64 6, .string ⟨#[97]⟩, .string ⟨#[]⟩, .string ⟨#[]⟩, .slice none 0 0, .slice none 0 0, .int .i64 0, .int .i64 0, .slice none 0 0] 30 from OB.new w [.int .i64 6, .string ⟨#[97]⟩, .string ⟨#[]⟩, .string ⟨#[]⟩, .slice none 0 0, .slice none 0 0, .int .i64 0, .int .i64 0, .slice none 0 0] 30)
  clear ho hT
  go_enter Tryz.func38, Tryz.ntmps38
  go_upto_region 1 with (fail)
  generalize w.alloc (.cells #[.int .i64 6, .string ⟨#[97]⟩, .string ⟨#[]⟩, .string ⟨#[]⟩, .slice none 0 0, .slice none 0 0, .int .i64 0, .int .i64 0, .slice none 0 0] 30) = w1 at *
  have y0 := HN1.out.cell 0 _ rfl
  have y1 := HN1.out.cell 1 _ rfl
  have y2 := HN1.out.cell 2 _ rfl
  have y3 := HN1.out.cell 3 _ rfl
  have y4 := HN1.out.cell 4 _ rfl
  have y5 := HN1.out.cell 5 _ rfl
  have y6 := HN1.out.cell 6 _ rfl
  have y7 := HN1.out.cell 7 _ rfl
  have y8 := HN1.out.cell 8 _ rfl
  have yl := HN1.out.lt
  go_wp2_with fail
  have C := Lib.hid (checkAll_a h w1 HO1.out HT1.out)
  with_reducible refine C.out.mono ?_
  rintro e w2 ⟨rfl, b⟩
  have HO2 := Lib.hid (HO1.out.below b)
  have HT2 := Lib.hid (HT1.out.below b)
  have HB2 := Lib.hid (HB1.out.trans (b.mono HB1.out.size))
  have HN2 := Lib.hid (HN1.out.below b)
  clear b C HO1 HT1 HB1
  clear y0 y1 y2 y3 y4 y5 y6 y7 y8 yl HN1
  have y0 := HN2.out.cell 0 _ rfl
  have y1 := HN2.out.cell 1 _ rfl
  have y2 := HN2.out.cell 2 _ rfl
  have y3 := HN2.out.cell 3 _ rfl
  have y4 := HN2.out.cell 4 _ rfl
  have y5 := HN2.out.cell 5 _ rfl
  have y6 := HN2.out.cell 6 _ rfl
  have y7 := HN2.out.cell 7 _ rfl
  have y8 := HN2.out.cell 8 _ rfl
  have yl := HN2.out.lt
  go_wp2_with fail
  have C := Lib.hid (build_a h w2 HO2.out)
  with_reducible refine C.out.mono ?_
  rintro e w3 ⟨p, rfl, hp, b⟩
  have HB3 := Lib.hid (HB2.out.trans (b.mono HB2.out.size))
  have D := Lib.hid (at_a p w3 hp)
  clear b C hp HO2 HT2 HB2 HN2 y0 y1 y2 y3 y4 y5 y6 y7 y8 yl
  go_wp2_with fail
  with_reducible refine D.out.mono ?_
  rintro e w4 ⟨rfl, b⟩
  have HB4 := Lib.hid (HB3.out.trans (b.mono HB3.out.size))
  clear b D HB3
  go_wp2_with fail
  go_ret2
  exact ⟨rfl, HB4.out⟩
set_option maxRecDepth 100000 in
set_option maxHeartbeats 1000000 in
theorem holds_a (h : Nat) (w : World) (ho : OB w h fdL 54) (hT : Tbs w) : Calls Tryz.prog 19 #[.string hsT, .slice (some ⟨h, 0, none⟩) 1 1, .slice none 0 0, .int .i64 0] w fun e w' => e = .returned (.tuple #[.bool true, .int .i64 0]) ∧ Below w.heap.size w w' := by
  have HO1 := Lib.hid ho
  have HT1 := Lib.hid hT
  have C := Lib.hid (parse_has w hT)
  clear ho hT
  go_enter Tryz.func19, Tryz.ntmps19
  go_wp2_with fail
  with_reducible refine C.out.mono ?_
  rintro e w1 ⟨rfl, b⟩
  have HO2 := Lib.hid ((HO1.out.below b).alloc (.cells #[.int .i64 6, .string ⟨#[97]⟩, .string ⟨#[]⟩, .string ⟨#[]⟩, .slice none 0 0, .slice none 0 0, .int .i64 0, .int .i64 0, .slice none 0 0] 30))
  have HT2 := Lib.hid ((HT1.out.below b).alloc (.cells #[.int .i64 6, .string ⟨#[97]⟩, .string ⟨#[]⟩, .string ⟨#[]⟩, .slice none 0 0, .slice none 0 0, .int .i64 0, .int .i64 0, .slice none 0 0] 30))
  have HB2 := Lib.hid (b.alloc b.size (.cells #[.int .i64 6, .string ⟨#[97]⟩, .string ⟨#[]⟩, .string ⟨#[]⟩, .slice none 0 0, .slice none 0 0, .int .i64 0, .int .i64 0, .slice none 0 0] 30))
  have HN2 := Lib.hid (show OB (w1.alloc (.cells #[.int .i64 6, .string ⟨#[97]⟩, .string ⟨#[]⟩, .string ⟨#[]⟩, .slice none 0 0, .slice none 0 0, .int .i64 0, .int .i64 0, .slice none 0 0] 30)) w1.heap.size [.int .i64 6, .string ⟨#[97]⟩, .string ⟨#[]⟩, .string ⟨#[]⟩, .slice none 0 0, .slice none 0 0, .int .i64 0, .int .i64 0, .slice none 0 0] 30 from OB.new w1 [.int .i64 6, .string ⟨#[97]⟩, .string ⟨#[]⟩, .string ⟨#[]⟩, .slice none 0 0, .slice none 0 0, .int .i64 0, .int .i64 0, .slice none 0 0] 30)
  clear b C HO1 HT1
  go_upto_region 2 with (fail)
  generalize w1.alloc (.cells #[.int .i64 6, .string ⟨#[97]⟩, .string ⟨#[]⟩, .string ⟨#[]⟩, .slice none 0 0, .slice none 0 0, .int .i64 0, .int .i64 0, .slice none 0 0] 30) = w2 at *
  have y0 := HN2.out.cell 0 _ rfl
  have y1 := HN2.out.cell 1 _ rfl
  have y2 := HN2.out.cell 2 _ rfl
  have y3 := HN2.out.cell 3 _ rfl
  have y4 := HN2.out.cell 4 _ rfl
  have y5 := HN2.out.cell 5 _ rfl
  have y6 := HN2.out.cell 6 _ rfl
  have y7 := HN2.out.cell 7 _ rfl
  have y8 := HN2.out.cell 8 _ rfl
  have yl := HN2.out.lt
  go_wp2_with fail
  have C := Lib.hid (is_a h w2 HO2.out HT2.out)
  with_reducible refine C.out.mono ?_
  rintro e w3 ⟨rfl, b⟩
  have HB3 := Lib.hid (HB2.out.trans (b.mono HB2.out.size))
  clear b C
  go_wp2_with fail
  go_ret2
  exact ⟨rfl, HB3.out⟩
set_option maxRecDepth 100000 in
set_option maxHeartbeats 1000000 in
theorem segments_any (w : World) (hT : Tbs w) : Calls Tryz.prog 7 #[] w fun e w' => e = .returned (.bool true) ∧ Below w.heap.size w w' := by
  have HN := Lib.hid (show OB (w.alloc (.cells #[.string ⟨#[97]⟩, .int .i64 3, .string ⟨#[]⟩, .int .i64 1] 54)) w.heap.size fdL 54 from OB.new w fdL 54)
  have HT := Lib.hid (hT.alloc (.cells #[.string ⟨#[97]⟩, .int .i64 3, .string ⟨#[]⟩, .int .i64 1] 54))
  have HB := Lib.hid ((Below.refl w.heap.size w).alloc (Nat.le_refl _) (.cells #[.string ⟨#[97]⟩, .int .i64 3, .string ⟨#[]⟩, .int .i64 1] 54))
  have C := Lib.hid (holds_a w.heap.size _ HN.out HT.out)
  unfold hsT at C
  clear hT
  go_enter Tryz.func7, Tryz.ntmps7
  go_wp2_with fail
  with_reducible refine C.out.mono ?_
  rintro e w1 ⟨rfl, b⟩
  have HB1 := Lib.hid (HB.out.trans (b.mono HB.out.size))
  clear b C HN HT HB
  go_wp2_with fail
  go_ret
  exact ⟨rfl, HB1.out⟩
end Go.Proofs.YtdiioecpponnmaaGreatDoor
