/- Contracts of measure.divide, measure.Divide and of the reference DivideOf. -/
import Derived.Test.YtgdagknjnidmiaaGreatDoorDivideSort
import Derived.Test.YtgdagknjnidmiaaGreatDoorM2
import Derived.Test.YtgdagknjnidmiaaGreatDoorWFault
set_option linter.unusedVariables false
namespace Go.Proofs.YtgdagknjnidmiaaGreatDoor
open Go.RowKit Deal

def dvOut (c : Nat) (ws : List Nat) (k : Nat) : List Value := (List.range k).map fun j => .int .i64 (qN c ws j : Nat)
def dvOrd (k : Nat) : List Value := (List.range k).map fun (j : Nat) => .int .i64 (j : Int)
def dvOwn (c : Nat) (ws : List Nat) (k : Nat) (v1 v2 : Value) : List Own := [⟨3, 1, v1, k, dvOut c ws k⟩, ⟨3, 1, v2, k, dvOrd k⟩]
theorem dvOwn_succ (c : Nat) (ws : List Nat) (k q : Nat) (v1 v2 : Value) (hq : q = qN c ws k) :
    [⟨3, 1, v1, k + 1, dvOut c ws k ++ [.int .i64 q]⟩, ⟨3, 1, v2, k + 1, dvOrd k ++ [.int .i64 k]⟩] = dvOwn c ws (k + 1) v1 v2 := by
  subst hq
  simp [dvOwn, dvOut, dvOrd, List.range_succ]

set_option maxRecDepth 100000 in
set_option maxHeartbeats 4000000 in
theorem divide_any (c : Nat) (a : Option Addr) (ws : List Nat) (n cp : Nat) (w : World) (hc : c ≤ 1000000000000) (hn : ws.length = n) (hn0 : 0 < n) (hn1 : n ≤ 12) (hr : natsAt w a ws) (hb : ∀ x ∈ ws, x ≤ 1000000) (hs0 : 0 < ws.sum) (hs1 : ws.sum ≤ 1000000000000) :
    Calls Tryz.prog 76 #[.int .i64 c, .slice a n cp] w fun e w' => ∃ g cap, e = .returned (.slice (some ⟨g, 0, none⟩) n cap) ∧ IntsAt w' (some ⟨g, 0, none⟩) (dealL true c ws) ∧ Below w.heap.size w w' := by
  obtain ⟨i0, hi, hz0, hz1, hz2⟩ := info_parts infoG_int
  have HB := Lib.hid hb
  have HN := Lib.hid hn
  have HR := Lib.hid hr
  have HT := Lib.hid (fun w' (h : natsAt w' a ws) => sumOf_any a (ws.map fun (x : Nat) => (x : Int)) n cp w' (by simpa using HN.out) (by omega) h (fun z hz => by
    obtain ⟨x, hx, rfl⟩ := List.mem_map.1 hz
    have := HB.out x hx
    omega))
  clear hb hn hr
  generalize hS : ws.sum = S at *
  have H1 := Lib.hid hS
  rw [sum_cast, hS] at HT
  clear hS
  obtain ⟨p, off, rfl, hp, -⟩ := HR.out.at_ (show 0 < ws.length by have := HN.out; omega)
  have HCL : Hid (∀ j (hj : j < ws.length), w.cell? ⟨p, off + j, none⟩ = some (.int .i64 (ws[j] : Int))) := Lib.hid (fun j hj => by
    obtain ⟨p', off', h1, h2, h3⟩ := HR.out.at_ hj
    injection h1 with h1
    injection h1 with e1 e2
    subst e1 e2
    exact h3)
  have HA1 : Hid (natsAt ((w.alloc (.cells #[.int .i64 c] 3)).alloc (.cells #[.slice (some ⟨p, off, none⟩) n cp] 22)) (some ⟨p, off, none⟩) ws) := Lib.hid ((HR.out.alloc _).alloc _)
  go_enter Tryz.func76, Tryz.ntmps76
  go_wp2_with fail
  with_reducible refine (HT.out _ HA1.out).mono ?_
  rintro e w' ⟨rfl, rfl⟩
  clear HT HA1
  go_wp2_with fail
  have B3 : Below w.heap.size w (((w.alloc (.cells #[.int .i64 c] 3)).alloc (.cells #[.slice (some ⟨p, off, none⟩) n cp] 22)).alloc (.cells #[.int .i64 S] 3)) := (((Below.refl _ _).alloc (Nat.le_refl _) _).alloc (by simp) _).alloc (by simp; omega) _
  have q1 : (((w.alloc (.cells #[.int .i64 c] 3)).alloc (.cells #[.slice (some ⟨p, off, none⟩) n cp] 22)).alloc (.cells #[.int .i64 S] 3)).cell? ⟨w.heap.size, 0, none⟩ = some (.int .i64 c) := old_cell (old_cell (new_cell rfl))
  have q2 : (((w.alloc (.cells #[.int .i64 c] 3)).alloc (.cells #[.slice (some ⟨p, off, none⟩) n cp] 22)).alloc (.cells #[.int .i64 S] 3)).cell? ⟨w.heap.size + 1, 0, none⟩ = some (.slice (some ⟨p, off, none⟩) n cp) := old_cell (new_cell (by simp))
  have q3 : (((w.alloc (.cells #[.int .i64 c] 3)).alloc (.cells #[.slice (some ⟨p, off, none⟩) n cp] 22)).alloc (.cells #[.int .i64 S] 3)).cell? ⟨w.heap.size + 1 + 1, 0, none⟩ = some (.int .i64 S) := new_cell (by simp)
  have z3 : (((w.alloc (.cells #[.int .i64 c] 3)).alloc (.cells #[.slice (some ⟨p, off, none⟩) n cp] 22)).alloc (.cells #[.int .i64 S] 3)).heap.size = w.heap.size + 3 := by simp
  generalize (((w.alloc (.cells #[.int .i64 c] 3)).alloc (.cells #[.slice (some ⟨p, off, none⟩) n cp] 22)).alloc (.cells #[.int .i64 S] 3)) = w3 at *
  have HQ := Lib.hid (And.intro q1 (And.intro q2 q3))
  have HZ3 := Lib.hid z3
  have HB3 := Lib.hid B3
  have hz3 : w.heap.size + 3 ≤ w3.heap.size := by omega
  clear q1 q2 q3 z3 B3
  go_loopw [6, 7, 8, 18] (fun lf v1 v2 i wr => ∃ (k : Nat) (x1 x2 : Value), k ≤ n ∧ x1 = v1 ∧ x2 = v2 ∧ i = .int .i64 k ∧ lf = .int .i64 ((c : Int) - (qSum c ws k : Nat)) ∧ qSum c ws k ≤ c ∧
      Owns (w.heap.size + 3) wr (dvOwn c ws k x1 x2) ∧ Below (w.heap.size + 3) w3 wr ∧ w.heap.size + 3 ≤ wr.heap.size) (fun _ _ _ i _ => n - (intOf i).toNat)
  case atStart =>
    refine ⟨0, .slice none 0 0, .slice none 0 0, Nat.zero_le _, rfl, rfl, rfl, congrArg (Value.int .i64) (by rw [qSum_zero]; omega), by rw [qSum_zero]; exact Nat.zero_le _, ?_, Below.refl _ _, hz3⟩
    refine ⟨fun r hr => ?_, by simp [dvOwn, Value.ownBlock]⟩
    simp only [dvOwn, List.mem_cons, List.mem_nil_iff, or_false] at hr
    rcases hr with rfl | rfl <;> exact World.ownsRow_nil _ _ _ _
  case round =>
    obtain ⟨k, x1, x2, hk, rfl, rfl, rfl, rfl, hle, hO, hB, hsz⟩ := hrel
    have k1 := (hB.cell (p := ⟨w.heap.size, 0, none⟩) (by show w.heap.size < _; omega)).trans HQ.out.1
    have k2 := (hB.cell (p := ⟨w.heap.size + 1, 0, none⟩) (by show w.heap.size + 1 < _; omega)).trans HQ.out.2.1
    have k3 := (hB.cell (p := ⟨w.heap.size + 1 + 1, 0, none⟩) (by show w.heap.size + 1 + 1 < _; omega)).trans HQ.out.2.2
    have HBW := Lib.hid hB
    by_cases hlt : k < n
    · have hkz : k < ws.length := by have := HN.out; omega
      have hcell := (hB.cell (p := ⟨p, off + k, none⟩) (by show p < _; omega)).trans ((HB3.out.cell (p := ⟨p, off + k, none⟩) hp).trans (HCL.out k hkz))
      have zb := HB.out ws[k] (List.getElem_mem hkz)
      have hzS : ws[k] ≤ S := by rw [← H1.out]; exact elem_le_sum ws k hkz
      have HQN := Lib.hid (show qN c ws k = c * ws[k] / S by unfold qN; rw [H1.out]; simp [hkz])
      have hqle := qN_le c ws k hkz (by rw [H1.out]; exact hs0)
      have HS := Lib.hid (qSum_succ c ws k hkz)
      have hle2 := Nat.le_trans (qSum_mono c ws (k + 1)) (qSum_le c ws (by rw [H1.out]; exact hs0))
      have HOx : Hid (Owns (w.heap.size + 3) wr [⟨3, 1, x1, k, dvOut c ws k⟩, ⟨3, 1, x2, k, dvOrd k⟩]) := Lib.hid hO
      clear hO hB
      have m1 : c * ws[k] ≤ 1000000000000 * 1000000 := Nat.mul_le_mul hc zb
      have e1 : IntKind.i64.wrap ((c : Int) * (ws[k] : Int)) = ((c * ws[k] : Nat) : Int) := by rw [← Int.natCast_mul, IntKind.wrap_i64]; omega
      have e2 : ((c * ws[k] : Nat) : Int).tdiv (S : Int) = (qN c ws k : Int) := by rw [HQN.out, Int.tdiv_eq_ediv_of_nonneg (by omega)]; simp
      have e2' : ((c * ws[k] : Nat) : Int) / (S : Int) = (qN c ws k : Int) := by rw [HQN.out]; simp
      have hSne : ¬ S = 0 := by omega
      generalize ws[k] = z at *
      generalize c * z = mz at *
      generalize hqq : qN c ws k = q at *
      have HQQ := Lib.hid hqq
      clear hqq
      go_wp2_with (at_builtin; refine wpList_append_lies _ rfl (.tmp 23) (.tmp 29) 22 rfl (w.heap.size + 3) 3 i0 (.int .i64 0) 1 8 Tryz.underlying22 hi hz0 hz1 hz2 rfl (by decide) x1 k _ rfl ((HOx.out.step (grown_alloc (grown_refl _ _) _)).at_ [] [⟨3, 1, x2, k, dvOrd k⟩] ⟨3, 1, x1, k, dvOut c ws k⟩) ⟨wr.heap.size, 0, none⟩ 1 1 [.int .i64 q] rfl rfl (news_one (new_cell rfl)) ?c1 (by decide) ?c3 ?c4 ?c5 _ rfl ?_)
      case c1 => simp [Value.oneCell']
      case c3 => unfold maxLen; omega
      case c4 => omega
      case c5 => first | omega | (simp; omega)
      intro g1 cap1 w1 hown1 hgrow1 hat1 hlt1
      have X := Owns.app (H := wr.heap.size) [] [⟨3, 1, x2, k, dvOrd k⟩] ⟨3, 1, x1, k, dvOut c ws k⟩ HOx.out (grown_alloc (grown_refl _ _) _) hsz hown1 hgrow1 (by simpa using hat1) (fun g hg => ((HOx.out.own ⟨3, 1, x1, k, dvOut c ws k⟩ (by simp)).lt g hg).2)
      have HO1 := Lib.hid X.1
      have HB1 := Lib.hid X.2.1
      have hs1x := Nat.le_trans hsz X.2.1.size
      have k1' := (X.2.1.cell (p := ⟨w.heap.size, 0, none⟩) (by show w.heap.size < _; omega)).trans k1
      clear X hown1 hgrow1 hat1 hlt1
      go_wp2_with (at_builtin; refine wpList_append_lies _ rfl (.tmp 31) (.tmp 33) 22 rfl (w.heap.size + 3) 3 i0 (.int .i64 0) 1 8 Tryz.underlying22 hi hz0 hz1 hz2 rfl (by decide) x2 k _ rfl ((HO1.out.step (grown_alloc (grown_refl _ _) _)).at_ [_] [] ⟨3, 1, x2, k, dvOrd k⟩) ⟨w1.heap.size, 0, none⟩ 1 1 [.int .i64 k] rfl rfl (news_one (new_cell rfl)) ?c1 (by decide) ?c3 ?c4 ?c5 _ rfl ?_)
      case c1 => simp [Value.oneCell']
      case c3 => unfold maxLen; omega
      case c4 => omega
      case c5 => first | omega | (simp; omega)
      intro g2 cap2 w2 hown2 hgrow2 hat2 hlt2
      have X := Owns.app (H := w1.heap.size) [_] [] ⟨3, 1, x2, k, dvOrd k⟩ HO1.out (grown_alloc (grown_refl _ _) _) hs1x hown2 hgrow2 (by simpa using hat2) (fun g hg => ((HO1.out.own ⟨3, 1, x2, k, dvOrd k⟩ (by simp)).lt g hg).2)
      have HO2 := Lib.hid X.1
      have HB2 := Lib.hid (HBW.out.trans (HB1.out.trans X.2.1))
      have hs2x := Nat.le_trans hs1x X.2.1.size
      have c7 : w2.cell? ⟨g1, k, none⟩ = some (.int .i64 q) := by
        have := X.1.own ⟨3, 1, .slice (some ⟨g1, 0, none⟩) (k + 1) cap1, k + 1, dvOut c ws k ++ [.int .i64 q]⟩ (by simp)
        refine (World.ownsRow.cellAt this k ?_).trans ?_
        · simp
        · simp [dvOut]
      clear X hown2 hgrow2 hat2 hlt2
      generalize qSum c ws k = qs at *
      go_wp2
      go_roundw
      case rel =>
        refine ⟨k + 1, _, _, by omega, rfl, rfl, by go_num, congrArg (Value.int .i64) (by have := HS.out; omega), hle2, ?_, HB2.out, hs2x⟩
        rw [← dvOwn_succ c ws k q _ _ HQQ.out.symm]
        exact HO2.out
      case measure => simp [intOf]; omega
    · obtain rfl : k = n := by omega
      have O1 : wr.ownsRow (w.heap.size + 3) 3 1 x1 k (dvOut c ws k) := (hO.own ⟨3, 1, x1, k, dvOut c ws k⟩ (by simp [dvOwn]))
      have O2 : wr.ownsRow (w.heap.size + 3) 3 1 x2 k (dvOrd k) := (hO.own ⟨3, 1, x2, k, dvOrd k⟩ (by simp [dvOwn]))
      have ap := hO.apart
      obtain ⟨g1, cap1, rfl, hb1, hl1⟩ := O1.form hn0
      obtain ⟨g2, cap2, rfl, hb2, hl2⟩ := O2.form hn0
      simp [dvOwn, Value.ownBlock] at ap
      have hcap2 : k ≤ cap2 := by
        rcases O2.2 with ⟨h, _⟩ | ⟨g, cap, cur, hv, _, _, h, _⟩
        · cases h
        · simp at hv; omega
      have R1 := (RowG.of_own O1).congr (f' := outG true c ws 0) (fun j hj => by simp [dvOut, outG, gotN_zero, hj])
      have R2 := (RowG.of_own O2).congr (f' := fun j => .int .i64 (j : Nat)) (fun j hj => by simp [dvOrd, hj])
      have HC := Lib.hid (divide_sort c ws k wr g2 cap2 w.heap.size (w.heap.size + 1) (w.heap.size + 1 + 1) p off cp S HN.out hn0 hn1 hc H1.out hs0 hs1 HB.out R2 k1 k2 k3
        (fun j hj => (HBW.out.cell (p := ⟨p, off + j, none⟩) (by show p < _; omega)).trans ((HB3.out.cell (p := ⟨p, off + j, none⟩) hp).trans (HCL.out j hj))) (by omega) (by omega) (by omega) (by omega))
      have hlt2 := left_lt c ws (by rw [H1.out]; exact hs0) (by intro h; rw [h] at HN; have := HN.out; simp at this; omega)
      have hql : qSum c ws k = qSum c ws ws.length := by rw [HN.out]
      have HL : Hid (leftN c ws = c - qSum c ws ws.length) := Lib.hid rfl
      generalize leftN c ws = L at *
      have hsum : ((c : Int) - ((qSum c ws k : Nat) : Int)) = L := by have := HL.out; rw [hql] at hle ⊢; omega
      rw [hsum]
      have hL : L < k := by have := HN.out; omega
      have hR1 := Lib.hid R1
      have HBG := Lib.hid (HB3.out.trans (HBW.out.mono (show w.heap.size ≤ w.heap.size + 3 by omega)))
      clear O1 O2 R1 R2 hB hO hql hsum hlt2 hle HBW k1 k2 k3
      go_wp2_with fail
      with_reducible refine HC.out.mono ?_
      rintro e w5 ⟨rfl, R5, G5⟩
      have Q5 := Lib.hid (hR1.out.grown G5 (by simp; omega))
      have B5 := Lib.hid (HBG.out.grown G5 (by omega) (by simp; omega))
      have HR5 := Lib.hid R5
      clear HC G5 R5 hR1 HBG
      go_wp2_with fail
      go_loopw [49] (fun i wr => ∃ m : Nat, m ≤ L ∧ i = .int .i64 m ∧ RowG wr g1 k (outG true c ws m) ∧ RowG wr g2 k (fun j => .int .i64 (nextN true c ws j : Nat)) ∧ Below w.heap.size w wr) (fun i _ => L - (intOf i).toNat)
      case atStart => exact ⟨0, Nat.zero_le _, rfl, Q5.out, HR5.out, B5.out⟩
      case round =>
        clear Q5 B5 HR5
        obtain ⟨m, hm, rfl, O, G, B⟩ := hrel
        by_cases hml : m < L
        · have hmk : m < ws.length := by have := HN.out; omega
          have hnl := nextN_lt true c ws m hmk
          have hnl' : nextN true c ws m < k := by have := HN.out; omega
          have c0 := G.cell m (by omega)
          have c1 := O.cell _ hnl'
          have f1 := O.free _ hnl'
          have hgn := gotN_next true c ws m hmk
          have hqn := qN_le c ws (nextN true c ws m) hnl (by rw [H1.out]; exact hs0)
          have S1 := Lib.hid (fun i => gotN_succ true c ws m i hmk)
          have HO := Lib.hid O
          have HG := Lib.hid G
          have HBB := Lib.hid B
          clear O G B
          simp only [outG, hgn] at c1
          clear hgn
          generalize nextN true c ws m = nx at *
          generalize hqq : qN c ws nx = qx at *
          have HQX := Lib.hid hqq
          clear hqq
          simp only [Bool.false_eq_true, if_false, Nat.add_zero] at c1
          go_wp2
          go_roundw
          case rel => exact ⟨m + 1, by omega, by go_num, (HO.out.set nx hnl' _).congr (fun i _ => outG_succ true c ws m i nx qx HQX.out (S1.out i)), HG.out.far (by show g2 ≠ g1; omega) _, HBB.out.setCell (by show w.heap.size ≤ g1; omega) _⟩
          case measure => simp [intOf]; omega
        · obtain rfl : m = L := by omega
          have HO := Lib.hid O
          have HBB := Lib.hid B
          clear O G B
          go_wp2
          go_ret
          refine ⟨g1, cap1, rfl, HO.out.ints (by rw [dealL_length, HN.out]) (fun j hj => ?_), HBB.out⟩
          have e : leftN c ws = m := HL.out.symm
          simp [dealL, outG, e]
end Go.Proofs.YtgdagknjnidmiaaGreatDoor
