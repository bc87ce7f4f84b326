/- The contract of the references' dealt. -/
import Derived.Test.YtdefjnefkdemiaaGreatDoorNats
import Derived.Test.YtdefjnefkdemiaaGreatDoorRowG
import Derived.Test.YtdefjnefkdemiaaGreatDoorMulDiv
import Derived.Test.YtdefjnefkdemiaaGreatDoorDeal2
set_option linter.unusedVariables false
namespace Go.Proofs.YtdefjnefkdemiaaGreatDoor
open Go.RowKit Deal

theorem infoG_int : (Tryz.prog.info? 3).map (fun i => (i.zero, i.size, i.bytes)) = some (some (.int .i64 0), 1, 8) := by kernel_rfl
theorem infoG_u64 : (Tryz.prog.info? 119).map (fun i => (i.zero, i.size, i.bytes)) = some (some (.int .u64 0), 1, 8) := by kernel_rfl
theorem infoG_bool : (Tryz.prog.info? 4).map (fun i => (i.zero, i.size, i.bytes)) = some (some (.bool false), 1, 1) := by kernel_rfl

def upQ (c : Nat) (ws : List Nat) (k j : Nat) : Value := .int .i64 ((if j < k then qN c ws j else 0 : Nat) : Int)
def upR (c : Nat) (ws : List Nat) (k j : Nat) : Value := .int .u64 ((if j < k then rN c ws j else 0 : Nat) : Int)
def outG (last : Bool) (c : Nat) (ws : List Nat) (k j : Nat) : Value := .int .i64 ((qN c ws j + if gotN last c ws k j then 1 else 0 : Nat) : Int)

theorem upQ_succ (c : Nat) (ws : List Nat) (k j q : Nat) (hq : q = qN c ws k) : (if j = k then Value.int .i64 (q : Int) else upQ c ws k j) = upQ c ws (k + 1) j := by
  unfold upQ
  by_cases e : j = k
  · subst e; simp [hq]
  · rw [if_neg e]
    have : (j < k) = (j < k + 1) := propext ⟨fun h => by omega, fun h => by omega⟩
    simp only [this]
theorem upR_succ (c : Nat) (ws : List Nat) (k j q : Nat) (hq : q = rN c ws k) : (if j = k then Value.int .u64 (q : Int) else upR c ws k j) = upR c ws (k + 1) j := by
  unfold upR
  by_cases e : j = k
  · subst e; simp [hq]
  · rw [if_neg e]
    have : (j < k) = (j < k + 1) := propext ⟨fun h => by omega, fun h => by omega⟩
    simp only [this]
theorem below_dN {B : Nat} {a w : World} (h : Below B a w) (n : Nat) : Below B a (w.drewN n) := ⟨h.os, h.tape, h.output, h.size, h.block⟩
theorem outG_zero (last : Bool) (c : Nat) (ws : List Nat) (j k : Nat) (hj : j < k) : upQ c ws k j = outG last c ws 0 j := by
  simp [upQ, outG, gotN_zero, hj]
theorem upR_all (c : Nat) (ws : List Nat) (j k : Nat) (hj : j < k) : upR c ws k j = .int .u64 (rN c ws j : Nat) := by
  simp [upR, hj]
theorem upQ_all (c : Nat) (ws : List Nat) (j k : Nat) (hj : j < k) : upQ c ws k j = .int .i64 (qN c ws j : Nat) := by
  simp [upQ, hj]
theorem outG_succ (last : Bool) (c : Nat) (ws : List Nat) (m i nx qx : Nat) (hq : qN c ws nx = qx) (hg : gotN last c ws (m + 1) i = if i = nx then true else gotN last c ws m i) :
    (if i = nx then Value.int .i64 ((qx : Int) + 1) else outG last c ws m i) = outG last c ws (m + 1) i := by
  unfold outG
  rw [hg]
  by_cases e : i = nx
  · subst e; rw [if_pos rfl, if_pos rfl, hq]; simp
  · rw [if_neg e, if_neg e]
def bestV (b : Option Nat) : Int := match b with
  | none => -1
  | some b => b

set_option maxRecDepth 100000 in
set_option maxHeartbeats 4000000 in
theorem dealt_new (last : Bool) (c : Nat) (a : Option Addr) (ws : List Nat) (n cp : Nat) (w : World) (hc : c ≤ 1000000000000) (hn : ws.length = n) (hn0 : 0 < n) (hn1 : n ≤ 1000) (hr : natsAt w a ws) (hb : ∀ x ∈ ws, x ≤ 1000000000000) (hs0 : 0 < ws.sum) (hs1 : ws.sum ≤ 1000000000000000) :
    Calls Tryz.prog 68 #[.int .i64 c, .slice a n cp, .bool last] w fun e w' => ∃ g, e = .returned (.slice (some ⟨g, 0, none⟩) n n) ∧ IntsAt w' (some ⟨g, 0, none⟩) (dealL last c ws) ∧ Below w.heap.size w w' ∧ w.heap.size ≤ g := by
  obtain ⟨i0, hi, hz0, hz1, hz2⟩ := info_parts infoG_int
  obtain ⟨j0, hj, hy0, hy1, hy2⟩ := info_parts infoG_u64
  obtain ⟨b0, hb0, hx0, hx1, hx2⟩ := info_parts infoG_bool
  have HT := Lib.hid (total_nats a ws n cp w hn (by omega) hr hb)
  have HB := Lib.hid hb
  have HN := Lib.hid hn
  have HR := Lib.hid hr
  clear hb hn hr
  go_enter Tryz.func68, Tryz.ntmps68
  go_wp2_with fail
  with_reducible refine HT.out.mono ?_
  rintro e w' ⟨rfl, rfl⟩
  clear HT
  generalize hS : ws.sum = S at *
  have H1 := Lib.hid hS
  clear hS
  go_wp2_with (refine wpList_make_row _ rfl _ _ 22 rfl 3 i0 (.int .i64 0) Tryz.underlying22 hi hz0 hz1 rfl n rfl rfl ?c1 ?c2 ?_)
  case c1 => rw [hz2]; omega
  case c2 => unfold maxLen; omega
  intro w1 R1 g1 z1
  go_wp2_with (refine wpList_make_row _ rfl _ _ 120 rfl 119 j0 (.int .u64 0) Tryz.underlying120 hj hy0 hy1 rfl n rfl rfl ?c1 ?c2 ?_)
  case c1 => rw [hy2]; omega
  case c2 => unfold maxLen; omega
  intro w2 R2 g2 z2
  have R1' := R1.grown g2 (by simp)
  have B2 : Below w.heap.size w w2 := ((Below.refl _ _).grown g1 (Nat.le_refl _) (by simp)).grown g2 (by omega) (by simp)
  clear g1 g2 R1
  have Q2 : RowG w2 w.heap.size n (upQ c ws 0) := R1'.congr (fun j _ => by simp [upQ])
  have P2 : RowG w2 (w.heap.size + 1) n (upR c ws 0) := R2.congr (fun j _ => by simp [upR])
  clear R1' R2 z1
  go_wp2_with fail
  go_loopw [32] (fun i wr => ∃ k : Nat, k ≤ n ∧ i = .int .i64 k ∧ RowG wr w.heap.size n (upQ c ws k) ∧ RowG wr (w.heap.size + 1) n (upR c ws k) ∧ Below w.heap.size w wr ∧ wr.heap.size = w.heap.size + 2) (fun i _ => n - (intOf i).toNat)
  case atStart => exact ⟨0, Nat.zero_le _, rfl, Q2, P2, B2, z2⟩
  case round =>
    clear Q2 P2 B2 z2 w2 w1
    obtain ⟨k, hk, rfl, Q2, P2, B2, z2⟩ := hrel
    have HZ := Lib.hid z2
    have hsz : w.heap.size + 2 ≤ wr.heap.size := by omega
    clear z2
    by_cases hlt : k < n
    · have hkz : k < ws.length := by have := HN.out; omega
      obtain ⟨p, off, rfl, hp, hcell⟩ := HR.out.at_ hkz
      have hcell' := (B2.cell (p := ⟨p, off + k, none⟩) hp).trans hcell
      have z1 := HB.out ws[k] (List.getElem_mem hkz)
      have hzS : ws[k] ≤ S := by rw [← H1.out]; exact elem_le_sum ws k hkz
      have hqn : qN c ws k = c * ws[k] / S := by unfold qN; rw [H1.out]; simp [hkz]
      have hrn : rN c ws k = c * ws[k] % S := by unfold rN; rw [H1.out]; simp [hkz]
      have HQ := Lib.hid (And.intro hqn hrn)
      have c1 := Q2.cell k hlt
      have f1 := Q2.free k hlt
      have c2 := P2.cell k hlt
      have f2 := P2.free k hlt
      have HQ2 := Lib.hid Q2
      have HP2 := Lib.hid P2
      have HB2 := Lib.hid B2
      clear Q2 P2 B2 hcell hqn hrn
      generalize ws[k] = z at *
      generalize upQ c ws k k = o1 at *
      generalize upR c ws k k = o2 at *
      go_wp2_with fail
      with_reducible refine (mul64 c z _ (by omega) (by omega)).mono ?_
      rintro e w' ⟨⟨m1, m2, hm, rfl⟩, rfl⟩
      go_wp2_with fail
      with_reducible refine (div_of_mul c z S m1 m2 _ hm (by omega) (prod_lt c z S (by omega) hzS hs0)).mono ?_
      rintro e w' ⟨⟨q, r, hqr, rfl⟩, x, rfl⟩
      obtain ⟨hq, hr⟩ := quo_facts c z S q r hqr hzS hs0
      clear hm
      have ewq : IntKind.i64.wrap (q : Int) = q := by rw [IntKind.wrap_i64]; omega
      go_wp2
      go_roundw
      case rel =>
        refine ⟨k + 1, by omega, by go_num, ?_, ?_, ?_, ?_⟩
        · exact ((((HQ2.out.set k hlt _).far (by simp) _).congr (fun j _ => upQ_succ c ws k j q (hqr.1.trans HQ.out.1.symm)))).drewN x
        · exact ((((HP2.out.far (by simp) _).set k hlt _).congr (fun j _ => upR_succ c ws k j r (hqr.2.trans HQ.out.2.symm)))).drewN x
        · exact below_dN (((HB2.out.setCell (by simp) _).setCell (by simp) _)) x
        · simpa [World.setCell] using HZ.out
      case measure => simp [intOf]; omega
    · obtain rfl : k = n := by omega
      go_wp2_with (refine wpList_make_row _ rfl _ _ 124 rfl 4 b0 (.bool false) Tryz.underlying124 hb0 hx0 hx1 rfl k rfl rfl ?c1 ?c2 ?_)
      case c1 => rw [hx2]; omega
      case c2 => unfold maxLen; omega
      intro w3 R3 g3 z3
      have P3 := (P2.grown g3 (by simp)).congr (fun j hj => upR_all c ws j k hj)
      have Q3 := Q2.grown g3 (by simp)
      have B3 := B2.grown g3 (by omega) (by simp)
      have hle := qSum_le c ws (by rw [H1.out]; exact hs0)
      have hlt2 := left_lt c ws (by rw [H1.out]; exact hs0) (by intro h; rw [h] at HN; have := HN.out; simp at this; omega)
      have HI := Lib.hid (show IntsAt w3 (some ⟨w.heap.size, 0, none⟩) ((List.range ws.length).map fun j => ((qN c ws j : Nat) : Int)) from Q3.ints (by simpa using HN.out) (fun j hj => by
        rw [upQ_all c ws j k (by have := HN.out; simp at hj; omega)]
        simp))
      have HT := Lib.hid (total_any (some ⟨w.heap.size, 0, none⟩) _ k k w3 (by simpa using HN.out) (by omega) HI.out (fun z hz => by
        obtain ⟨j, hj, rfl⟩ := List.mem_map.1 hz
        have := qN_le c ws j (by simpa using hj) (by rw [H1.out]; exact hs0)
        omega))
      rw [qs_sum] at HT
      have Q4 := Q3.congr (fun j hj => outG_zero last c ws j k hj)
      have G4 : RowG w3 wr.heap.size k (fun j => .bool (gotN last c ws 0 j)) := R3.congr (fun j _ => by rw [gotN_zero])
      have HL : Hid (leftN c ws = c - qSum c ws ws.length) := Lib.hid rfl
      generalize leftN c ws = L at *
      have hsum : ((qSum c ws ws.length : Nat) : Int) = (c : Int) - L := by have := HL.out; omega
      rw [hsum] at HT
      have hL : L < k := by have := HN.out; omega
      have hwr := HZ.out
      have HO := Lib.hid Q4
      have HG := Lib.hid G4
      have HP := Lib.hid P3
      have HBB := Lib.hid B3
      clear HI Q2 Q3 P2 P3 B2 B3 R3 g3 Q4 G4 hsum hle hlt2 z3
      clear hsz HZ
      generalize wr.heap.size = gg at *
      subst hwr
      go_wp2_with fail
      with_reducible refine HT.out.mono ?_
      rintro e w4 ⟨rfl, rfl⟩
      clear HT
      go_wp2_with fail
      go_loopw [17, 18] (fun lf _ wr => ∃ m : Nat, m ≤ L ∧ lf = .int .i64 ((L : Int) - m) ∧ RowG wr w.heap.size k (outG last c ws m) ∧ RowG wr (w.heap.size + 1) k (fun j => .int .u64 (rN c ws j : Nat)) ∧
          RowG wr (w.heap.size + 2) k (fun j => .bool (gotN last c ws m j)) ∧ Below w.heap.size w wr) (fun lf _ _ => (intOf lf).toNat)
      case atStart => exact ⟨0, Nat.zero_le _, congrArg (Value.int .i64) (by omega), HO.out, HP.out, HG.out, HBB.out⟩
      case round =>
        clear HO HP HG HBB
        obtain ⟨m, hm, rfl, O, P, G, B⟩ := hrel
        have HO := Lib.hid O
        have HP := Lib.hid P
        have HG := Lib.hid G
        have HBB := Lib.hid B
        clear O P G B
        by_cases hml : m < L
        · have hmk : m < ws.length := by have := HN.out; omega
          go_wp2_with fail
          go_loop [18, 75] (fun b i => ∃ (j : Nat) (x : Option Nat), j ≤ k ∧ i = .int .i64 j ∧ BestN last c ws m j x ∧ b = .int .i64 (bestV x)) (fun _ i => k - (intOf i).toNat)
          case atStart => exact ⟨0, none, Nat.zero_le _, rfl, bestN_zero _ _ _ _, rfl⟩
          case round =>
            obtain ⟨j, x, hj, rfl, hB, rfl⟩ := hrel
            by_cases hjk : j < k
            · have hjw : j < ws.length := by have := HN.out; omega
              have c1 := HP.out.cell j hjk
              have c2 := HG.out.cell j hjk
              have r1 := rN_lt c ws j (by rw [H1.out]; exact hs0)
              cases hg : gotN last c ws m j with
              | true =>
                have HX := Lib.hid (bestN_skip last c ws m j hjw x hB hg)
                simp only [hg] at c2
                clear hB hg
                generalize rN c ws j = rj at *
                generalize hbx : bestV x = bx
                have HBX := Lib.hid hbx
                clear hbx
                go_wp2
                go_round
                case rel => exact ⟨j + 1, x, by omega, by go_num, HX.out, congrArg (Value.int .i64) HBX.out.symm⟩
                case measure => simp [intOf]; omega
              | false =>
                simp only [hg] at c2
                cases x with
                | none =>
                  have HX := Lib.hid (bestN_first last c ws m j hjw hB hg)
                  clear hB hg
                  generalize rN c ws j = rj at *
                  simp only [bestV]
                  go_wp2
                  go_round
                  case rel => exact ⟨j + 1, some j, by omega, by go_num, HX.out, rfl⟩
                  case measure => simp [intOf]; omega
                | some b =>
                  have hbl := bestN_lt last c ws m j b hB
                  have hbk : b < k := by have := HN.out; omega
                  have c3 := HP.out.cell b hbk
                  have KK := Lib.hid (bestN_keep last c ws m j b hjw hB)
                  have KT := Lib.hid (bestN_take last c ws m j b hjw hB hg)
                  have r2 := rN_lt c ws b (by rw [H1.out]; exact hs0)
                  clear hB hg
                  generalize rN c ws j = rj at *
                  generalize rN c ws b = rb at *
                  simp only [bestV]
                  by_cases h1 : rb < rj
                  · go_wp2
                    go_round
                    case rel => exact ⟨j + 1, some j, by omega, by go_num, KT.out (.inl h1), rfl⟩
                    case measure => simp [intOf]; omega
                  · by_cases h2 : rj = rb
                    · have h2' : ((rj : Int) == (rb : Int)) = true := by simp [h2]
                      have HE := Lib.hid h2
                      clear h2
                      cases hl : last with
                      | true =>
                        subst hl
                        go_wp2
                        go_round
                        case rel => exact ⟨j + 1, some j, by omega, by go_num, KT.out (.inr ⟨rfl, HE.out⟩), rfl⟩
                        case measure => simp [intOf]; omega
                      | false =>
                        subst hl
                        go_wp2
                        go_round
                        case rel => exact ⟨j + 1, some b, by omega, by go_num, KK.out (by rintro (h | ⟨h, _⟩); exact h1 h; cases h), rfl⟩
                        case measure => simp [intOf]; omega
                    · have h2' : ((rj : Int) == (rb : Int)) = false := by simp; omega
                      have HE := Lib.hid (show ¬ (rb < rj ∨ last = true ∧ rj = rb) by rintro (h | ⟨_, h⟩); exact h1 h; exact h2 h)
                      cases hl : last with
                      | true =>
                        subst hl
                        go_wp2
                        go_round
                        case rel => exact ⟨j + 1, some b, by omega, by go_num, KK.out HE.out, rfl⟩
                        case measure => simp [intOf]; omega
                      | false =>
                        subst hl
                        go_wp2
                        go_round
                        case rel => exact ⟨j + 1, some b, by omega, by go_num, KK.out HE.out, rfl⟩
                        case measure => simp [intOf]; omega
            · obtain rfl : j = k := by omega
              have hx := bestN_end last c ws m hmk x (by rw [HN.out]; exact hB)
              have hnl := nextN_lt last c ws m hmk
              have hnl' : nextN last c ws m < j := by have := HN.out; omega
              have c1 := HO.out.cell _ hnl'
              have f1 := HO.out.free _ hnl'
              have c2 := HG.out.cell _ hnl'
              have f2 := HG.out.free _ hnl'
              have hgn := gotN_next last c ws m hmk
              have hqn := qN_le c ws (nextN last c ws m) hnl (by rw [H1.out]; exact hs0)
              have S1 := Lib.hid (fun i => gotN_succ last c ws m i hmk)
              simp only [outG, hgn] at c1 c2
              subst hx
              clear hB hgn
              have HX := Lib.hid (rfl : nextN last c ws m = nextN last c ws m)
              simp only [bestV]
              generalize hnx : nextN last c ws m = nx at *
              have HNX := Lib.hid hnx
              have HQQ := Lib.hid (rfl : qN c ws nx = qN c ws nx)
              clear HX hnx
              generalize hqq : qN c ws nx = qx at *
              have HQX := Lib.hid hqq
              clear hqq HQQ
              simp only [Bool.false_eq_true, if_false, Nat.add_zero] at c1
              go_wp2
              go_roundw
              case rel =>
                refine ⟨m + 1, by omega, congrArg (Value.int .i64) (by omega), ?_, ?_, ?_, ?_⟩
                · exact ((HO.out.set nx hnl' _).far (by simp) _).congr (fun i _ => outG_succ last c ws m i nx qx HQX.out (S1.out i))
                · exact (HP.out.far (by simp) _).far (by simp) _
                · exact ((HG.out.far (by simp) _).set nx hnl' _).congr (fun i _ => by rw [S1.out i]; split <;> rfl)
                · exact (HBB.out.setCell (by simp) _).setCell (by simp) _
              case measure => simp [intOf]; omega
        · obtain rfl : m = L := by omega
          go_wp2
          go_ret
          refine ⟨w.heap.size, rfl, HO.out.ints (by rw [dealL_length, HN.out]) (fun j hj => ?_), HBB.out, Nat.le_refl _⟩
          have e : leftN c ws = m := HL.out.symm
          simp [dealL, outG, e]
theorem dealt_any (last : Bool) (c : Nat) (a : Option Addr) (ws : List Nat) (n cp : Nat) (w : World) (hc : c ≤ 1000000000000) (hn : ws.length = n) (hn0 : 0 < n) (hn1 : n ≤ 1000) (hr : natsAt w a ws) (hb : ∀ x ∈ ws, x ≤ 1000000000000) (hs0 : 0 < ws.sum) (hs1 : ws.sum ≤ 1000000000000000) :
    Calls Tryz.prog 68 #[.int .i64 c, .slice a n cp, .bool last] w fun e w' => ∃ g, e = .returned (.slice (some ⟨g, 0, none⟩) n n) ∧ IntsAt w' (some ⟨g, 0, none⟩) (dealL last c ws) ∧ Below w.heap.size w w' :=
  (dealt_new last c a ws n cp w hc hn hn0 hn1 hr hb hs0 hs1).mono fun e w' ⟨g, h1, h2, h3, _⟩ => ⟨g, h1, h2, h3⟩
end Go.Proofs.YtdefjnefkdemiaaGreatDoor
