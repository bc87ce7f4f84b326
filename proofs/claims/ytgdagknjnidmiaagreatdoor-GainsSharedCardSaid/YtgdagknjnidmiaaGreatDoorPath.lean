/- measure.path. -/
import Derived.Test.YtgdagknjnidmiaaGreatDoorM1
import Derived.Test.YtgdagknjnidmiaaGreatDoorM2
set_option linter.unusedVariables false
namespace Go.Proofs.YtgdagknjnidmiaaGreatDoor
open Go.RowKit

theorem infoP_int : (Tryz.prog.info? 3).map (fun i => (i.zero, i.size, i.bytes)) = some (some (.int .i64 0), 1, 8) := by kernel_rfl
/-- a slice value that reads as numbers -/
def IntsIs (w : World) (v : Value) (l : List Int) : Prop := ∃ a c, v = .slice a l.length c ∧ IntsAt w a l
theorem IntsIs.nil (w : World) : IntsIs w (.slice none 0 0) [] := ⟨none, 0, rfl, IntsAt.nil _ _⟩
theorem IntsIs.below {w w' : World} {v : Value} {l : List Int} (h : IntsIs w v l) (hb : Below w.heap.size w w') : IntsIs w' v l := by
  obtain ⟨a, c, h1, h2⟩ := h
  exact ⟨a, c, h1, h2.below hb⟩
theorem IntsAt.drop {w : World} {p off : Nat} {zs : List Int} (h : IntsAt w (some ⟨p, off, none⟩) zs) (d : Nat) : IntsAt w (some ⟨p, off + d, none⟩) (zs.drop d) := by
  intro j hj
  have hj' : d + j < zs.length := by simp at hj; omega
  obtain ⟨p', off', h1, h2, h3⟩ := h (d + j) hj'
  injection h1 with h1
  injection h1 with e1 e2
  subst e1 e2
  exact ⟨p, off + d, rfl, h2, by rw [Nat.add_assoc, h3]; simp⟩
def PathOut (w : World) (l : List Int) (e : Ending) (w' : World) : Prop := ∃ v, e = .returned v ∧ IntsIs w' v l ∧ Below w.heap.size w w'
theorem pathP_yes {g : Gn} {span : Int} {x : Snt} (h1 : (x.person.toList == g.person.toList) = true) (h2 : x.at_ < g.at_) (h3 : g.at_ - x.at_ ≤ span) : pathP g span x = true := by
  unfold pathP
  rw [h1, decide_eq_true h2, decide_eq_true h3]; rfl
theorem pathP_no1 {g : Gn} {span : Int} {x : Snt} (h1 : (x.person.toList == g.person.toList) = false) : pathP g span x = false := by
  unfold pathP
  rw [h1]; rfl
theorem pathP_no2 {g : Gn} {span : Int} {x : Snt} (h2 : ¬ x.at_ < g.at_) : pathP g span x = false := by
  unfold pathP
  rw [decide_eq_false h2]; simp
theorem pathP_no3 {g : Gn} {span : Int} {x : Snt} (h2 : ¬ g.at_ - x.at_ ≤ span) : pathP g span x = false := by
  unfold pathP
  rw [decide_eq_false h2]; simp

set_option maxRecDepth 100000 in
set_option maxHeartbeats 4000000 in
theorem path_any (a : Option Addr) (l : List Snt) (n c : Nat) (g : Gn) (span : Int) (w : World) (hn : l.length = n) (hn1 : n ≤ 1000) (hI : RAt w a 4 Snt.cells l) (hm : ∀ x ∈ l, 0 ≤ x.at_ ∧ x.at_ ≤ 4321439) (hg1 : 0 ≤ g.at_) (hg2 : g.at_ ≤ 4321439) :
    Calls Tryz.prog 50 #[.slice a n c, .agg #[.string g.id, .string g.person, .int .i64 g.at_, .int .i64 g.cents], .int .i64 span] w (PathOut w (pathL (pathP g span) l)) := by
  obtain ⟨i0, hi, hz0, hz1, hz2⟩ := info_parts infoP_int
  have HN := Lib.hid hn
  have HI := Lib.hid hI
  have HM := Lib.hid hm
  have HPL := Lib.hid (show pathL (pathP g span) l = (pIdx (pathP g span) l l.length).drop ((pIdx (pathP g span) l l.length).length - 12) from rfl)
  clear hn hI hm
  have HX := Lib.hid (XB.new w [.string g.id, .string g.person, .int .i64 g.at_, .int .i64 g.cents] 102)
  go_enter Tryz.func50, Tryz.ntmps50
  go_wp2_with fail
  go_loopw [7, 8, 9, 12] (fun v _ _ i wr => ∃ k : Nat, k ≤ n ∧ i = .int .i64 k ∧ wr.ownsRow (w.heap.size + 1) 3 1 v (pIdx (pathP g span) l k).length ((pIdx (pathP g span) l k).map (Value.int .i64)) ∧ Below w.heap.size w wr ∧ XB wr w.heap.size [.string g.id, .string g.person, .int .i64 g.at_, .int .i64 g.cents]) (fun _ _ _ i _ => n - (intOf i).toNat)
  case atStart => exact ⟨0, Nat.zero_le _, rfl, World.ownsRow_nil _ _ _ _, (Below.refl _ _).alloc (Nat.le_refl _) _, HX.out⟩
  case round =>
    obtain ⟨k, hk, rfl, hrow, hB, hX⟩ := hrel
    have hq := hX.1
    obtain ⟨g0, g1, g2, g3⟩ := hX.at4
    have hlen := pIdx_len (pathP g span) l k
    have HR := Lib.hid hrow
    have HX1 := Lib.hid hX
    clear hrow hX HX
    by_cases hlt : k < n
    · have hkl : k < l.length := by have := HN.out; omega
      obtain ⟨p, off, rfl, hp, c0, c1, c2, c3⟩ := (HI.out.below hB).at4 hkl (v0 := .string l[k].id) (v1 := .string l[k].person) (v2 := .string l[k].letter) (v3 := .int .i64 l[k].at_) rfl
      obtain ⟨m1, m2⟩ := HM.out l[k] (List.getElem_mem hkl)
      have HS := Lib.hid (pIdx_succ (pathP g span) l k hkl)
      have HY := Lib.hid (@pathP_yes g span l[k])
      have HN1 := Lib.hid (@pathP_no1 g span l[k])
      have HN2 := Lib.hid (@pathP_no2 g span l[k])
      have HN3 := Lib.hid (@pathP_no3 g span l[k])
      have HRA := Lib.hid (HR.out.alloc (.cells #[.string l[k].id, .string l[k].person, .string l[k].letter, .int .i64 l[k].at_] 62))
      have HXA := Lib.hid (HX1.out.alloc (.cells #[.string l[k].id, .string l[k].person, .string l[k].letter, .int .i64 l[k].at_] 62))
      have HBA := Lib.hid (hB.alloc hB.size (.cells #[.string l[k].id, .string l[k].person, .string l[k].letter, .int .i64 l[k].at_] 62))
      generalize pathP g span l[k] = b at *
      generalize l[k] = x at *
      obtain ⟨id, person, letter, at_⟩ := x
      simp only at c0 c1 c2 c3 m1 m2
      by_cases h1 : (person.toList == g.person.toList) = true
      · by_cases h2 : at_ < g.at_
        · by_cases h3 : g.at_ - at_ ≤ span
          · obtain rfl : b = true := HY.out h1 h2 h3
            have HS' := Lib.hid (HS.out.trans (show _ = pIdx (pathP g span) l k ++ [(k : Int)] by simp))
            clear HY HN1 HN2 HN3 HS
            have own4 := HRA.out
            have hr4 := fun q hq => (own4.lt q hq).1
            have HR4 := Lib.hid hr4
            clear hr4
            generalize hL : pIdx (pathP g span) l k = L at *
            have HLL := Lib.hid hL
            clear hL
            go_wp2_with (at_builtin; refine wpList_append_own _ rfl _ _ 22 rfl (w.heap.size + 1) 3 i0 (.int .i64 0) 1 8 Tryz.underlying22 hi hz0 hz1 hz2 rfl (by decide) _ _ _ rfl (own4.alloc _) ⟨wr.heap.size + 1, 0, none⟩ 1 1 [.int .i64 k] rfl rfl ?c1 ?c2 ?c3 ?c4 ?c5 ?_)
            case c2 => simp [Value.oneCell']
            case c3 => unfold maxLen; omega
            case c4 => omega
            case c5 => first | omega | (simp; omega)
            intro v2 w5 own5 hgrow5 hne5
            have HX5 := Lib.hid ((HXA.out.alloc _).grown hgrow5 (fun e => by have := HR4.out _ e; omega))
            have HB5 := Lib.hid ((HBA.out.alloc HBA.out.size _).grown hgrow5 (by have := hB.size; simp; omega) (fun q hq => by have := HR4.out _ hq; omega))
            have HO := Lib.hid own5
            clear hne5 own5 hgrow5 HXA HBA HRA own4 HR HX1
            go_wp2_with fail
            go_roundw
            case rel => exact ⟨k + 1, by omega, by go_num, by rw [HS'.out]; simpa using HO.out, HB5.out, HX5.out⟩
            case measure => simp [intOf]; omega
          ·
            obtain rfl : b = false := HN3.out h3
            have HS' := Lib.hid (HS.out.trans (show _ = pIdx (pathP g span) l k by simp))
            clear HY HN1 HN2 HN3 HS
            go_wp2_with fail
            go_roundw
            case rel => exact ⟨k + 1, by omega, by go_num, by rw [HS'.out]; exact HRA.out, HBA.out, HXA.out⟩
            case measure => simp [intOf]; omega
        ·
          obtain rfl : b = false := HN2.out h2
          have HS' := Lib.hid (HS.out.trans (show _ = pIdx (pathP g span) l k by simp))
          clear HY HN1 HN2 HN3 HS
          go_wp2_with fail
          go_roundw
          case rel => exact ⟨k + 1, by omega, by go_num, by rw [HS'.out]; exact HRA.out, HBA.out, HXA.out⟩
          case measure => simp [intOf]; omega
      · have h1 : (person.toList == g.person.toList) = false := by simpa using h1
        obtain rfl : b = false := HN1.out h1
        have HS' := Lib.hid (HS.out.trans (show _ = pIdx (pathP g span) l k by simp))
        clear HY HN1 HN2 HN3 HS
        go_wp2_with fail
        go_roundw
        case rel => exact ⟨k + 1, by omega, by go_num, by rw [HS'.out]; exact HRA.out, HBA.out, HXA.out⟩
        case measure => simp [intOf]; omega
    · have hkn : k = l.length := by have := HN.out; omega
      have HPL' := Lib.hid (show pathL (pathP g span) l = (pIdx (pathP g span) l k).drop ((pIdx (pathP g span) l k).length - 12) by rw [hkn]; exact HPL.out)
      clear hkn HPL
      generalize pathL (pathP g span) l = R at *
      have hrow := HR.out
      have H0 := Lib.hid hrow
      generalize pIdx (pathP g span) l k = L at *
      clear HR
      rcases hrow.2 with ⟨rfl, h0⟩ | ⟨gb, cap, cur, rfl, hbg, hg, hnc, hcm, hcs, htake⟩
      · have hL0 : L = [] := List.eq_nil_of_length_eq_zero h0
        subst hL0
        clear h0 hrow
        go_wp2_with fail
        go_ret
        exact ⟨_, rfl, by rw [HPL'.out]; exact IntsIs.nil _, hB⟩
      · have hIA := IntsAt.of_own H0.out
        have HIA := Lib.hid hIA
        clear hcs htake hg hrow hIA
        unfold maxLen at hcm
        by_cases h12 : L.length ≤ 12
        · have HR := Lib.hid (HPL'.out.trans (show _ = L by rw [show L.length - 12 = 0 by omega, List.drop_zero]))
          have hmx : max ((L.length : Int) - 12) 0 = 0 := by omega
          go_wp2_with fail
          all_goals
            go_ret
            refine ⟨_, rfl, ?_, hB⟩
            rw [HR.out]
            exact ⟨_, cap, by simp, HIA.out⟩
        · have hmx : max ((L.length : Int) - 12) 0 = ((L.length - 12 : Nat) : Int) := by omega
          have hne : ¬ cap = L.length - 12 := by omega
          go_wp2_with fail
          all_goals
            go_ret
            refine ⟨_, rfl, ?_, hB⟩
            rw [HPL'.out]
            have hd := HIA.out.drop (L.length - 12)
            rw [Nat.zero_add] at hd
            exact ⟨_, cap - (L.length - 12), by simp, hd⟩
end Go.Proofs.YtgdagknjnidmiaaGreatDoor
