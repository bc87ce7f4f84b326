/- A path, weights and parts lie in new blocks (printed by gen_new.py). -/
import Derived.Test.YtgdagknjnidmiaaGreatDoorPath
import Derived.Test.YtgdagknjnidmiaaGreatDoorM3
import Derived.Test.YtgdagknjnidmiaaGreatDoorDivide
set_option linter.unusedVariables false
namespace Go.Proofs.YtgdagknjnidmiaaGreatDoor
open Go.RowKit Deal

/-- the slice lies at B or behind -/
def NewS (B : Nat) (v : Value) : Prop := ∀ p off n c, v = .slice (some ⟨p, off, none⟩) n c → B ≤ p
theorem NewS.nil (B n c : Nat) : NewS B (.slice none n c) := fun _ _ _ _ e => by cases e
theorem NewS.at_ {B p off n c : Nat} (h : B ≤ p) : NewS B (.slice (some ⟨p, off, none⟩) n c) := fun p' _ _ _ e => by injection e with e; injection e with e; injection e with e; omega
theorem NewS.row {w : World} {b C n : Nat} {t : TypeId} {v : Value} {xs : List Value} (h : w.ownsRow b t C v n xs) : NewS b v := fun p off n' c' e => by
  subst e
  exact (h.lt p rfl).1
theorem NewS.low {B B' : Nat} {v : Value} (h : NewS B v) (hb : B' ≤ B) : NewS B' v := fun p off n c e => Nat.le_trans hb (h p off n c e)

def PathNew (w : World) (l : List Int) (e : Ending) (w' : World) : Prop := ∃ v, e = .returned v ∧ IntsIs w' v l ∧ Below w.heap.size w w' ∧ NewS w.heap.size v

set_option maxRecDepth 100000 in
set_option maxHeartbeats 2000000 in
theorem weights_new (how span : Int) (a : Option Addr) (zs : List Int) (n cp : Nat) (w : World) (h1 : 1 ≤ how) (h2 : how ≤ 6) (hs1 : 1 ≤ span) (hs2 : span ≤ 4321440) (hn : zs.length = n) (hn1 : n ≤ 1000) (hI : IntsAt w a zs) (hg : ∀ i, i < n → badA span zs i = 0) :
    Calls Tryz.prog 75 #[.int .i64 how, .int .i64 span, .slice a n cp] w fun e w' => ∃ v, e = .returned v ∧ SliceIs w' v (wgtL how span zs n) ∧ Below w.heap.size w w' ∧ NewS w.heap.size v := by
  obtain ⟨i0, hi, hz0, hz1, hz2⟩ := info_parts infoW
  have HN := Lib.hid hn
  have HI := Lib.hid hI
  have HG := Lib.hid hg
  obtain ⟨sp, rfl⟩ := Int.eq_ofNat_of_zero_le (show 0 ≤ span by omega)
  clear hn hI hg
  go_enter Tryz.func75, Tryz.ntmps75
  go_wp2_with fail
  go_loopw [7, 8, 9, 12] (fun v _ _ i wr => ∃ k : Nat, k ≤ n ∧ i = .int .i64 k ∧ wr.ownsRow w.heap.size 3 1 v k ((wgtL how sp zs k).map (Value.int .i64)) ∧ Below w.heap.size w wr) (fun _ _ _ i _ => n - (intOf i).toNat)
  case atStart => exact ⟨0, Nat.zero_le _, rfl, World.ownsRow_nil _ _ _ _, Below.refl _ _⟩
  case round =>
    obtain ⟨k, hk, rfl, hrow, hB⟩ := hrel
    have hsz := hB.size
    by_cases hlt : k < n
    · have hkz : k < zs.length := by have := HN.out; omega
      obtain ⟨p, off, rfl, hp, hcell⟩ := HI.out.at_ hkz
      have hcell' := (hB.cell (p := ⟨p, off + k, none⟩) hp).trans hcell
      have hz := badA_good (HG.out k hlt)
      rw [getD_get zs k hkz] at hz
      have HF := Lib.hid (wgtL_succ how sp zs k)
      rw [getD_get zs k hkz, HN.out] at HF
      have HB := Lib.hid hB
      have own1 := hrow
      clear hrow hB hcell
      generalize zs[k] = z at *
      obtain ⟨ag, rfl⟩ := Int.eq_ofNat_of_zero_le (show 0 ≤ z by omega)
      simp only [Int.toNat_natCast] at HF
      go_wp2_with fail
      with_reducible refine (weight_any how sp ag k n _ h1 h2 (by omega) (by omega) (by omega) hlt hn1).mono ?_
      rintro e w' ⟨rfl, rfl⟩
      generalize wgt how (18 * ag / sp) k n = x at *
      go_wp2_with (at_builtin; refine wpList_append_own _ rfl _ _ 22 rfl w.heap.size 3 i0 (.int .i64 0) 1 8 Tryz.underlying22 hi hz0 hz1 hz2 rfl (by decide) _ _ _ rfl (own1.alloc _) ⟨wr.heap.size, 0, none⟩ 1 1 [.int .i64 x] rfl rfl ?c1 ?c2 ?c3 ?c4 ?c5 ?_)
      case c1 => exact cell_one_new _ _ _
      case c2 => simp [Value.oneCell']
      case c3 => unfold maxLen; omega
      case c4 => omega
      case c5 => simp; omega
      intro v2 w2 own2 hgrow2 hne2
      have HO2 := Lib.hid (show w2.ownsRow w.heap.size 3 1 v2 (k + 1) ((wgtL how sp zs (k + 1)).map (Value.int .i64)) by rw [HF.out]; simpa using own2)
      have HB2 := Lib.hid ((HB.out.alloc (by omega) _).grown hgrow2 (by simp; omega) (fun q hq => (own1.lt q hq).1))
      clear own2 hgrow2 hne2 own1 HB
      go_wp2
      go_roundw
      case rel => exact ⟨k + 1, by omega, by go_num, HO2.out, HB2.out⟩
      case measure => simp [intOf]; omega
    · obtain rfl : k = n := by omega
      have HF := Lib.hid (slice_of_row hrow (wgtL_len _ _ _ _))
      have HNW := Lib.hid (NewS.row hrow)
      have HB := Lib.hid hB
      clear hrow hB
      go_wp2
      go_ret
      exact ⟨_, rfl, HF.out, HB.out, HNW.out⟩


set_option maxRecDepth 100000 in
set_option maxHeartbeats 4000000 in
theorem path_new (a : Option Addr) (l : List Snt) (n c : Nat) (g : Gn) (span : Int) (w : World) (hn : l.length = n) (hn1 : n ≤ 1000) (hI : RAt w a 4 Snt.cells l) (hm : ∀ x ∈ l, 0 ≤ x.at_ ∧ x.at_ ≤ 4321439) (hg1 : 0 ≤ g.at_) (hg2 : g.at_ ≤ 4321439) :
    Calls Tryz.prog 50 #[.slice a n c, .agg #[.string g.id, .string g.person, .int .i64 g.at_, .int .i64 g.cents], .int .i64 span] w (PathNew w (pathL (pathP g span) l)) := by
  obtain ⟨i0, hi, hz0, hz1, hz2⟩ := info_parts infoP_int
  have HN := Lib.hid hn
  have HI := Lib.hid hI
  have HM := Lib.hid hm
  have HPL := Lib.hid (show pathL (pathP g span) l = (pIdx (pathP g span) l l.length).drop ((pIdx (pathP g span) l l.length).length - 12) from rfl)
  clear hn hI hm
  have HX := Lib.hid (XB.new w [.string g.id, .string g.person, .int .i64 g.at_, .int .i64 g.cents] 102)
  go_enter Tryz.func50, Tryz.ntmps50
  go_wp2_with fail
  go_loopw [7, 8, 9, 12] (fun v _ _ i wr => ∃ k : Nat, k ≤ n ∧ i = .int .i64 k ∧ wr.ownsRow (w.heap.size + 1) 3 1 v (pIdx (pathP g span) l k).length ((pIdx (pathP g span) l k).map (Value.int .i64)) ∧ Below w.heap.size w wr ∧ XB wr w.heap.size [.string g.id, .string g.person, .int .i64 g.at_, .int .i64 g.cents]) (fun _ _ _ i _ => n - (intOf i).toNat)
  case atStart => exact ⟨0, Nat.zero_le _, rfl, World.ownsRow_nil _ _ _ _, (Below.refl _ _).alloc (Nat.le_refl _) _, HX.out⟩
  case round =>
    obtain ⟨k, hk, rfl, hrow, hB, hX⟩ := hrel
    have hq := hX.1
    obtain ⟨g0, g1, g2, g3⟩ := hX.at4
    have hlen := pIdx_len (pathP g span) l k
    have HR := Lib.hid hrow
    have HX1 := Lib.hid hX
    clear hrow hX HX
    by_cases hlt : k < n
    · have hkl : k < l.length := by have := HN.out; omega
      obtain ⟨p, off, rfl, hp, c0, c1, c2, c3⟩ := (HI.out.below hB).at4 hkl (v0 := .string l[k].id) (v1 := .string l[k].person) (v2 := .string l[k].letter) (v3 := .int .i64 l[k].at_) rfl
      obtain ⟨m1, m2⟩ := HM.out l[k] (List.getElem_mem hkl)
      have HS := Lib.hid (pIdx_succ (pathP g span) l k hkl)
      have HY := Lib.hid (@pathP_yes g span l[k])
      have HN1 := Lib.hid (@pathP_no1 g span l[k])
      have HN2 := Lib.hid (@pathP_no2 g span l[k])
      have HN3 := Lib.hid (@pathP_no3 g span l[k])
      have HRA := Lib.hid (HR.out.alloc (.cells #[.string l[k].id, .string l[k].person, .string l[k].letter, .int .i64 l[k].at_] 62))
      have HXA := Lib.hid (HX1.out.alloc (.cells #[.string l[k].id, .string l[k].person, .string l[k].letter, .int .i64 l[k].at_] 62))
      have HBA := Lib.hid (hB.alloc hB.size (.cells #[.string l[k].id, .string l[k].person, .string l[k].letter, .int .i64 l[k].at_] 62))
      generalize pathP g span l[k] = b at *
      generalize l[k] = x at *
      obtain ⟨id, person, letter, at_⟩ := x
      simp only at c0 c1 c2 c3 m1 m2
      by_cases h1 : (person.toList == g.person.toList) = true
      · by_cases h2 : at_ < g.at_
        · by_cases h3 : g.at_ - at_ ≤ span
          · obtain rfl : b = true := HY.out h1 h2 h3
            have HS' := Lib.hid (HS.out.trans (show _ = pIdx (pathP g span) l k ++ [(k : Int)] by simp))
            clear HY HN1 HN2 HN3 HS
            have own4 := HRA.out
            have hr4 := fun q hq => (own4.lt q hq).1
            have HR4 := Lib.hid hr4
            clear hr4
            generalize hL : pIdx (pathP g span) l k = L at *
            have HLL := Lib.hid hL
            clear hL
            go_wp2_with (at_builtin; refine wpList_append_own _ rfl _ _ 22 rfl (w.heap.size + 1) 3 i0 (.int .i64 0) 1 8 Tryz.underlying22 hi hz0 hz1 hz2 rfl (by decide) _ _ _ rfl (own4.alloc _) ⟨wr.heap.size + 1, 0, none⟩ 1 1 [.int .i64 k] rfl rfl ?c1 ?c2 ?c3 ?c4 ?c5 ?_)
            case c2 => simp [Value.oneCell']
            case c3 => unfold maxLen; omega
            case c4 => omega
            case c5 => first | omega | (simp; omega)
            intro v2 w5 own5 hgrow5 hne5
            have HX5 := Lib.hid ((HXA.out.alloc _).grown hgrow5 (fun e => by have := HR4.out _ e; omega))
            have HB5 := Lib.hid ((HBA.out.alloc HBA.out.size _).grown hgrow5 (by have := hB.size; simp; omega) (fun q hq => by have := HR4.out _ hq; omega))
            have HO := Lib.hid own5
            clear hne5 own5 hgrow5 HXA HBA HRA own4 HR HX1
            go_wp2_with fail
            go_roundw
            case rel => exact ⟨k + 1, by omega, by go_num, by rw [HS'.out]; simpa using HO.out, HB5.out, HX5.out⟩
            case measure => simp [intOf]; omega
          ·
            obtain rfl : b = false := HN3.out h3
            have HS' := Lib.hid (HS.out.trans (show _ = pIdx (pathP g span) l k by simp))
            clear HY HN1 HN2 HN3 HS
            go_wp2_with fail
            go_roundw
            case rel => exact ⟨k + 1, by omega, by go_num, by rw [HS'.out]; exact HRA.out, HBA.out, HXA.out⟩
            case measure => simp [intOf]; omega
        ·
          obtain rfl : b = false := HN2.out h2
          have HS' := Lib.hid (HS.out.trans (show _ = pIdx (pathP g span) l k by simp))
          clear HY HN1 HN2 HN3 HS
          go_wp2_with fail
          go_roundw
          case rel => exact ⟨k + 1, by omega, by go_num, by rw [HS'.out]; exact HRA.out, HBA.out, HXA.out⟩
          case measure => simp [intOf]; omega
      · have h1 : (person.toList == g.person.toList) = false := by simpa using h1
        obtain rfl : b = false := HN1.out h1
        have HS' := Lib.hid (HS.out.trans (show _ = pIdx (pathP g span) l k by simp))
        clear HY HN1 HN2 HN3 HS
        go_wp2_with fail
        go_roundw
        case rel => exact ⟨k + 1, by omega, by go_num, by rw [HS'.out]; exact HRA.out, HBA.out, HXA.out⟩
        case measure => simp [intOf]; omega
    · have hkn : k = l.length := by have := HN.out; omega
      have HPL' := Lib.hid (show pathL (pathP g span) l = (pIdx (pathP g span) l k).drop ((pIdx (pathP g span) l k).length - 12) by rw [hkn]; exact HPL.out)
      clear hkn HPL
      generalize pathL (pathP g span) l = R at *
      have hrow := HR.out
      have H0 := Lib.hid hrow
      have HNW := Lib.hid (fun q hq => (hrow.lt q hq).1)
      generalize pIdx (pathP g span) l k = L at *
      clear HR
      rcases hrow.2 with ⟨rfl, h0⟩ | ⟨gb, cap, cur, rfl, hbg, hg, hnc, hcm, hcs, htake⟩
      · have hL0 : L = [] := List.eq_nil_of_length_eq_zero h0
        subst hL0
        clear h0 hrow
        go_wp2_with fail
        go_ret
        exact ⟨_, rfl, by rw [HPL'.out]; exact IntsIs.nil _, hB, NewS.nil _ _ _⟩
      · have hIA := IntsAt.of_own H0.out
        have HIA := Lib.hid hIA
        clear hcs htake hg hrow hIA
        unfold maxLen at hcm
        by_cases h12 : L.length ≤ 12
        · have HR := Lib.hid (HPL'.out.trans (show _ = L by rw [show L.length - 12 = 0 by omega, List.drop_zero]))
          have hmx : max ((L.length : Int) - 12) 0 = 0 := by omega
          go_wp2_with fail
          all_goals
            go_ret
            refine ⟨_, rfl, ?_, hB, NewS.at_ (by have := HNW.out gb (by simp [Value.ownBlock]); omega)⟩
            rw [HR.out]
            exact ⟨_, cap, by simp, HIA.out⟩
        · have hmx : max ((L.length : Int) - 12) 0 = ((L.length - 12 : Nat) : Int) := by omega
          have hne : ¬ cap = L.length - 12 := by omega
          go_wp2_with fail
          all_goals
            go_ret
            refine ⟨_, rfl, ?_, hB, NewS.at_ (by have := HNW.out gb (by simp [Value.ownBlock]); omega)⟩
            rw [HPL'.out]
            have hd := HIA.out.drop (L.length - 12)
            rw [Nat.zero_add] at hd
            exact ⟨_, cap - (L.length - 12), by simp, hd⟩

set_option maxRecDepth 100000 in
set_option maxHeartbeats 4000000 in
theorem divide_new (c : Nat) (a : Option Addr) (ws : List Nat) (n cp : Nat) (w : World) (hc : c ≤ 1000000000000) (hn : ws.length = n) (hn0 : 0 < n) (hn1 : n ≤ 12) (hr : natsAt w a ws) (hb : ∀ x ∈ ws, x ≤ 1000000) (hs0 : 0 < ws.sum) (hs1 : ws.sum ≤ 1000000000000) :
    Calls Tryz.prog 76 #[.int .i64 c, .slice a n cp] w fun e w' => ∃ g cap, e = .returned (.slice (some ⟨g, 0, none⟩) n cap) ∧ IntsAt w' (some ⟨g, 0, none⟩) (dealL true c ws) ∧ Below w.heap.size w w' ∧ w.heap.size ≤ g := by
  obtain ⟨i0, hi, hz0, hz1, hz2⟩ := info_parts infoG_int
  have HB := Lib.hid hb
  have HN := Lib.hid hn
  have HR := Lib.hid hr
  have HT := Lib.hid (fun w' (h : natsAt w' a ws) => sumOf_any a (ws.map fun (x : Nat) => (x : Int)) n cp w' (by simpa using HN.out) (by omega) h (fun z hz => by
    obtain ⟨x, hx, rfl⟩ := List.mem_map.1 hz
    have := HB.out x hx
    omega))
  clear hb hn hr
  generalize hS : ws.sum = S at *
  have H1 := Lib.hid hS
  rw [sum_cast, hS] at HT
  clear hS
  obtain ⟨p, off, rfl, hp, -⟩ := HR.out.at_ (show 0 < ws.length by have := HN.out; omega)
  have HCL : Hid (∀ j (hj : j < ws.length), w.cell? ⟨p, off + j, none⟩ = some (.int .i64 (ws[j] : Int))) := Lib.hid (fun j hj => by
    obtain ⟨p', off', h1, h2, h3⟩ := HR.out.at_ hj
    injection h1 with h1
    injection h1 with e1 e2
    subst e1 e2
    exact h3)
  have HA1 : Hid (natsAt ((w.alloc (.cells #[.int .i64 c] 3)).alloc (.cells #[.slice (some ⟨p, off, none⟩) n cp] 22)) (some ⟨p, off, none⟩) ws) := Lib.hid ((HR.out.alloc _).alloc _)
  go_enter Tryz.func76, Tryz.ntmps76
  go_wp2_with fail
  with_reducible refine (HT.out _ HA1.out).mono ?_
  rintro e w' ⟨rfl, rfl⟩
  clear HT HA1
  go_wp2_with fail
  have B3 : Below w.heap.size w (((w.alloc (.cells #[.int .i64 c] 3)).alloc (.cells #[.slice (some ⟨p, off, none⟩) n cp] 22)).alloc (.cells #[.int .i64 S] 3)) := (((Below.refl _ _).alloc (Nat.le_refl _) _).alloc (by simp) _).alloc (by simp; omega) _
  have q1 : (((w.alloc (.cells #[.int .i64 c] 3)).alloc (.cells #[.slice (some ⟨p, off, none⟩) n cp] 22)).alloc (.cells #[.int .i64 S] 3)).cell? ⟨w.heap.size, 0, none⟩ = some (.int .i64 c) := old_cell (old_cell (new_cell rfl))
  have q2 : (((w.alloc (.cells #[.int .i64 c] 3)).alloc (.cells #[.slice (some ⟨p, off, none⟩) n cp] 22)).alloc (.cells #[.int .i64 S] 3)).cell? ⟨w.heap.size + 1, 0, none⟩ = some (.slice (some ⟨p, off, none⟩) n cp) := old_cell (new_cell (by simp))
  have q3 : (((w.alloc (.cells #[.int .i64 c] 3)).alloc (.cells #[.slice (some ⟨p, off, none⟩) n cp] 22)).alloc (.cells #[.int .i64 S] 3)).cell? ⟨w.heap.size + 1 + 1, 0, none⟩ = some (.int .i64 S) := new_cell (by simp)
  have z3 : (((w.alloc (.cells #[.int .i64 c] 3)).alloc (.cells #[.slice (some ⟨p, off, none⟩) n cp] 22)).alloc (.cells #[.int .i64 S] 3)).heap.size = w.heap.size + 3 := by simp
  generalize (((w.alloc (.cells #[.int .i64 c] 3)).alloc (.cells #[.slice (some ⟨p, off, none⟩) n cp] 22)).alloc (.cells #[.int .i64 S] 3)) = w3 at *
  have HQ := Lib.hid (And.intro q1 (And.intro q2 q3))
  have HZ3 := Lib.hid z3
  have HB3 := Lib.hid B3
  have hz3 : w.heap.size + 3 ≤ w3.heap.size := by omega
  clear q1 q2 q3 z3 B3
  go_loopw [6, 7, 8, 18] (fun lf v1 v2 i wr => ∃ (k : Nat) (x1 x2 : Value), k ≤ n ∧ x1 = v1 ∧ x2 = v2 ∧ i = .int .i64 k ∧ lf = .int .i64 ((c : Int) - (qSum c ws k : Nat)) ∧ qSum c ws k ≤ c ∧
      Owns (w.heap.size + 3) wr (dvOwn c ws k x1 x2) ∧ Below (w.heap.size + 3) w3 wr ∧ w.heap.size + 3 ≤ wr.heap.size) (fun _ _ _ i _ => n - (intOf i).toNat)
  case atStart =>
    refine ⟨0, .slice none 0 0, .slice none 0 0, Nat.zero_le _, rfl, rfl, rfl, congrArg (Value.int .i64) (by rw [qSum_zero]; omega), by rw [qSum_zero]; exact Nat.zero_le _, ?_, Below.refl _ _, hz3⟩
    refine ⟨fun r hr => ?_, by simp [dvOwn, Value.ownBlock]⟩
    simp only [dvOwn, List.mem_cons, List.mem_nil_iff, or_false] at hr
    rcases hr with rfl | rfl <;> exact World.ownsRow_nil _ _ _ _
  case round =>
    obtain ⟨k, x1, x2, hk, rfl, rfl, rfl, rfl, hle, hO, hB, hsz⟩ := hrel
    have k1 := (hB.cell (p := ⟨w.heap.size, 0, none⟩) (by show w.heap.size < _; omega)).trans HQ.out.1
    have k2 := (hB.cell (p := ⟨w.heap.size + 1, 0, none⟩) (by show w.heap.size + 1 < _; omega)).trans HQ.out.2.1
    have k3 := (hB.cell (p := ⟨w.heap.size + 1 + 1, 0, none⟩) (by show w.heap.size + 1 + 1 < _; omega)).trans HQ.out.2.2
    have HBW := Lib.hid hB
    by_cases hlt : k < n
    · have hkz : k < ws.length := by have := HN.out; omega
      have hcell := (hB.cell (p := ⟨p, off + k, none⟩) (by show p < _; omega)).trans ((HB3.out.cell (p := ⟨p, off + k, none⟩) hp).trans (HCL.out k hkz))
      have zb := HB.out ws[k] (List.getElem_mem hkz)
      have hzS : ws[k] ≤ S := by rw [← H1.out]; exact elem_le_sum ws k hkz
      have HQN := Lib.hid (show qN c ws k = c * ws[k] / S by unfold qN; rw [H1.out]; simp [hkz])
      have hqle := qN_le c ws k hkz (by rw [H1.out]; exact hs0)
      have HS := Lib.hid (qSum_succ c ws k hkz)
      have hle2 := Nat.le_trans (qSum_mono c ws (k + 1)) (qSum_le c ws (by rw [H1.out]; exact hs0))
      have HOx : Hid (Owns (w.heap.size + 3) wr [⟨3, 1, x1, k, dvOut c ws k⟩, ⟨3, 1, x2, k, dvOrd k⟩]) := Lib.hid hO
      clear hO hB
      have m1 : c * ws[k] ≤ 1000000000000 * 1000000 := Nat.mul_le_mul hc zb
      have e1 : IntKind.i64.wrap ((c : Int) * (ws[k] : Int)) = ((c * ws[k] : Nat) : Int) := by rw [← Int.natCast_mul, IntKind.wrap_i64]; omega
      have e2 : ((c * ws[k] : Nat) : Int).tdiv (S : Int) = (qN c ws k : Int) := by rw [HQN.out, Int.tdiv_eq_ediv_of_nonneg (by omega)]; simp
      have e2' : ((c * ws[k] : Nat) : Int) / (S : Int) = (qN c ws k : Int) := by rw [HQN.out]; simp
      have hSne : ¬ S = 0 := by omega
      generalize ws[k] = z at *
      generalize c * z = mz at *
      generalize hqq : qN c ws k = q at *
      have HQQ := Lib.hid hqq
      clear hqq
      go_wp2_with (at_builtin; refine wpList_append_lies _ rfl (.tmp 23) (.tmp 29) 22 rfl (w.heap.size + 3) 3 i0 (.int .i64 0) 1 8 Tryz.underlying22 hi hz0 hz1 hz2 rfl (by decide) x1 k _ rfl ((HOx.out.step (grown_alloc (grown_refl _ _) _)).at_ [] [⟨3, 1, x2, k, dvOrd k⟩] ⟨3, 1, x1, k, dvOut c ws k⟩) ⟨wr.heap.size, 0, none⟩ 1 1 [.int .i64 q] rfl rfl (news_one (new_cell rfl)) ?c1 (by decide) ?c3 ?c4 ?c5 _ rfl ?_)
      case c1 => simp [Value.oneCell']
      case c3 => unfold maxLen; omega
      case c4 => omega
      case c5 => first | omega | (simp; omega)
      intro g1 cap1 w1 hown1 hgrow1 hat1 hlt1
      have X := Owns.app (H := wr.heap.size) [] [⟨3, 1, x2, k, dvOrd k⟩] ⟨3, 1, x1, k, dvOut c ws k⟩ HOx.out (grown_alloc (grown_refl _ _) _) hsz hown1 hgrow1 (by simpa using hat1) (fun g hg => ((HOx.out.own ⟨3, 1, x1, k, dvOut c ws k⟩ (by simp)).lt g hg).2)
      have HO1 := Lib.hid X.1
      have HB1 := Lib.hid X.2.1
      have hs1x := Nat.le_trans hsz X.2.1.size
      have k1' := (X.2.1.cell (p := ⟨w.heap.size, 0, none⟩) (by show w.heap.size < _; omega)).trans k1
      clear X hown1 hgrow1 hat1 hlt1
      go_wp2_with (at_builtin; refine wpList_append_lies _ rfl (.tmp 31) (.tmp 33) 22 rfl (w.heap.size + 3) 3 i0 (.int .i64 0) 1 8 Tryz.underlying22 hi hz0 hz1 hz2 rfl (by decide) x2 k _ rfl ((HO1.out.step (grown_alloc (grown_refl _ _) _)).at_ [_] [] ⟨3, 1, x2, k, dvOrd k⟩) ⟨w1.heap.size, 0, none⟩ 1 1 [.int .i64 k] rfl rfl (news_one (new_cell rfl)) ?c1 (by decide) ?c3 ?c4 ?c5 _ rfl ?_)
      case c1 => simp [Value.oneCell']
      case c3 => unfold maxLen; omega
      case c4 => omega
      case c5 => first | omega | (simp; omega)
      intro g2 cap2 w2 hown2 hgrow2 hat2 hlt2
      have X := Owns.app (H := w1.heap.size) [_] [] ⟨3, 1, x2, k, dvOrd k⟩ HO1.out (grown_alloc (grown_refl _ _) _) hs1x hown2 hgrow2 (by simpa using hat2) (fun g hg => ((HO1.out.own ⟨3, 1, x2, k, dvOrd k⟩ (by simp)).lt g hg).2)
      have HO2 := Lib.hid X.1
      have HB2 := Lib.hid (HBW.out.trans (HB1.out.trans X.2.1))
      have hs2x := Nat.le_trans hs1x X.2.1.size
      have c7 : w2.cell? ⟨g1, k, none⟩ = some (.int .i64 q) := by
        have := X.1.own ⟨3, 1, .slice (some ⟨g1, 0, none⟩) (k + 1) cap1, k + 1, dvOut c ws k ++ [.int .i64 q]⟩ (by simp)
        refine (World.ownsRow.cellAt this k ?_).trans ?_
        · simp
        · simp [dvOut]
      clear X hown2 hgrow2 hat2 hlt2
      generalize qSum c ws k = qs at *
      go_wp2
      go_roundw
      case rel =>
        refine ⟨k + 1, _, _, by omega, rfl, rfl, by go_num, congrArg (Value.int .i64) (by have := HS.out; omega), hle2, ?_, HB2.out, hs2x⟩
        rw [← dvOwn_succ c ws k q _ _ HQQ.out.symm]
        exact HO2.out
      case measure => simp [intOf]; omega
    · obtain rfl : k = n := by omega
      have O1 : wr.ownsRow (w.heap.size + 3) 3 1 x1 k (dvOut c ws k) := (hO.own ⟨3, 1, x1, k, dvOut c ws k⟩ (by simp [dvOwn]))
      have O2 : wr.ownsRow (w.heap.size + 3) 3 1 x2 k (dvOrd k) := (hO.own ⟨3, 1, x2, k, dvOrd k⟩ (by simp [dvOwn]))
      have ap := hO.apart
      obtain ⟨g1, cap1, rfl, hb1, hl1⟩ := O1.form hn0
      obtain ⟨g2, cap2, rfl, hb2, hl2⟩ := O2.form hn0
      simp [dvOwn, Value.ownBlock] at ap
      have hcap2 : k ≤ cap2 := by
        rcases O2.2 with ⟨h, _⟩ | ⟨g, cap, cur, hv, _, _, h, _⟩
        · cases h
        · simp at hv; omega
      have R1 := (RowG.of_own O1).congr (f' := outG true c ws 0) (fun j hj => by simp [dvOut, outG, gotN_zero, hj])
      have R2 := (RowG.of_own O2).congr (f' := fun j => .int .i64 (j : Nat)) (fun j hj => by simp [dvOrd, hj])
      have HC := Lib.hid (divide_sort c ws k wr g2 cap2 w.heap.size (w.heap.size + 1) (w.heap.size + 1 + 1) p off cp S HN.out hn0 hn1 hc H1.out hs0 hs1 HB.out R2 k1 k2 k3
        (fun j hj => (HBW.out.cell (p := ⟨p, off + j, none⟩) (by show p < _; omega)).trans ((HB3.out.cell (p := ⟨p, off + j, none⟩) hp).trans (HCL.out j hj))) (by omega) (by omega) (by omega) (by omega))
      have hlt2 := left_lt c ws (by rw [H1.out]; exact hs0) (by intro h; rw [h] at HN; have := HN.out; simp at this; omega)
      have hql : qSum c ws k = qSum c ws ws.length := by rw [HN.out]
      have HL : Hid (leftN c ws = c - qSum c ws ws.length) := Lib.hid rfl
      generalize leftN c ws = L at *
      have hsum : ((c : Int) - ((qSum c ws k : Nat) : Int)) = L := by have := HL.out; rw [hql] at hle ⊢; omega
      rw [hsum]
      have hL : L < k := by have := HN.out; omega
      have hR1 := Lib.hid R1
      have HBG := Lib.hid (HB3.out.trans (HBW.out.mono (show w.heap.size ≤ w.heap.size + 3 by omega)))
      clear O1 O2 R1 R2 hB hO hql hsum hlt2 hle HBW k1 k2 k3
      go_wp2_with fail
      with_reducible refine HC.out.mono ?_
      rintro e w5 ⟨rfl, R5, G5⟩
      have Q5 := Lib.hid (hR1.out.grown G5 (by simp; omega))
      have B5 := Lib.hid (HBG.out.grown G5 (by omega) (by simp; omega))
      have HR5 := Lib.hid R5
      clear HC G5 R5 hR1 HBG
      go_wp2_with fail
      go_loopw [49] (fun i wr => ∃ m : Nat, m ≤ L ∧ i = .int .i64 m ∧ RowG wr g1 k (outG true c ws m) ∧ RowG wr g2 k (fun j => .int .i64 (nextN true c ws j : Nat)) ∧ Below w.heap.size w wr) (fun i _ => L - (intOf i).toNat)
      case atStart => exact ⟨0, Nat.zero_le _, rfl, Q5.out, HR5.out, B5.out⟩
      case round =>
        clear Q5 B5 HR5
        obtain ⟨m, hm, rfl, O, G, B⟩ := hrel
        by_cases hml : m < L
        · have hmk : m < ws.length := by have := HN.out; omega
          have hnl := nextN_lt true c ws m hmk
          have hnl' : nextN true c ws m < k := by have := HN.out; omega
          have c0 := G.cell m (by omega)
          have c1 := O.cell _ hnl'
          have f1 := O.free _ hnl'
          have hgn := gotN_next true c ws m hmk
          have hqn := qN_le c ws (nextN true c ws m) hnl (by rw [H1.out]; exact hs0)
          have S1 := Lib.hid (fun i => gotN_succ true c ws m i hmk)
          have HO := Lib.hid O
          have HG := Lib.hid G
          have HBB := Lib.hid B
          clear O G B
          simp only [outG, hgn] at c1
          clear hgn
          generalize nextN true c ws m = nx at *
          generalize hqq : qN c ws nx = qx at *
          have HQX := Lib.hid hqq
          clear hqq
          simp only [Bool.false_eq_true, if_false, Nat.add_zero] at c1
          go_wp2
          go_roundw
          case rel => exact ⟨m + 1, by omega, by go_num, (HO.out.set nx hnl' _).congr (fun i _ => outG_succ true c ws m i nx qx HQX.out (S1.out i)), HG.out.far (by show g2 ≠ g1; omega) _, HBB.out.setCell (by show w.heap.size ≤ g1; omega) _⟩
          case measure => simp [intOf]; omega
        · obtain rfl : m = L := by omega
          have HO := Lib.hid O
          have HBB := Lib.hid B
          clear O G B
          go_wp2
          go_ret
          refine ⟨g1, cap1, rfl, HO.out.ints (by rw [dealL_length, HN.out]) (fun j hj => ?_), HBB.out, by omega⟩
          have e : leftN c ws = m := HL.out.symm
          simp [dealL, outG, e]
end Go.Proofs.YtgdagknjnidmiaaGreatDoor
