/- handref1.PathOf. -/
import Derived.Test.YtgdagknjnidmiaaGreatDoorPath
import Derived.Test.YtgdagknjnidmiaaGreatDoorShelf
import Derived.IntWalk
set_option linter.unusedVariables false
namespace Go.Proofs.YtgdagknjnidmiaaGreatDoor
open Go.RowKit

theorem own_form {w : World} {b0 : Nat} {t : TypeId} {v : Value} {n : Nat} {xs : List Value} (h : w.ownsRow b0 t 1 v n xs) : ∃ a c, v = .slice a n c := by
  rcases h.2 with ⟨rfl, h0⟩ | ⟨gb, cap, cur, rfl, _⟩
  · exact ⟨none, 0, by rw [h0]⟩
  · exact ⟨_, cap, rfl⟩

theorem below_sets {B : Nat} {a : World} (b : Nat) (hb : B ≤ b) : ∀ (vs : List Value) (o : Nat) {w : World}, Below B a w → Below B a (w.setCells b o vs)
  | [], _, _, h => h
  | v :: r, o, w, h => below_sets b hb r (o + 1) (h.setCell (p := ⟨b, o, none⟩) hb v)
theorem size_sets (b : Nat) : ∀ (vs : List Value) (o : Nat) (w : World), (w.setCells b o vs).heap.size = w.heap.size
  | [], _, _ => rfl
  | v :: r, o, w => (size_sets b r (o + 1) _).trans (by simp [World.setCell])

theorem reverse_own {a w : World} {b0 B : Nat} {ab : Option Addr} {n cb : Nat} {zs : List Int} (own : w.ownsRow b0 3 1 (.slice ab n cb) n (zs.map (Value.int .i64))) (hn : n ≤ 1000) (hB : B ≤ b0) (hb : Below B a w) :
    Calls Tryz.prog 81 #[.slice ab n cb] w fun e w' => e = .returned (.tuple #[]) ∧ IntsIs w' (.slice ab n cb) zs.reverse ∧ Below B a w' := by
  have hl : zs.length = n := by simpa using own.1
  by_cases h0 : n = 0
  · subst h0
    have hz : zs = [] := List.eq_nil_of_length_eq_zero hl
    subst hz
    refine (Tryz.slices_Reverse_int_empty ab cb w).mono ?_
    rintro e w1 ⟨rfl, rfl⟩
    exact ⟨rfl, ⟨ab, cb, rfl, IntsAt.nil _ _⟩, hb⟩
  · have hI := IntsAt.of_own own
    obtain ⟨g, cap, hv, hbg, hlt⟩ := own.form (by omega)
    have hA : ab = some ⟨g, 0, none⟩ := by injection hv
    subst hA
    refine (Tryz.slices_Reverse_int_cells g 0 n cb zs w (by omega) (by omega) (fun j hj => ?_) (fun j hj => ?_)).mono ?_
    · obtain ⟨p, off, h1, h2, h3⟩ := hI j hj
      injection h1 with h1
      injection h1 with e1 e2
      subst e1 e2
      rw [h3, List.getD_eq_getElem?_getD, List.getElem?_eq_getElem hj]
      rfl
    · rw [Nat.zero_add]
      exact own.frozenAt j
    · rintro e w1 ⟨rfl, q, rfl⟩
      refine ⟨rfl, ⟨some ⟨g, 0, none⟩, cb, by simp [hl], fun j hj => ⟨g, 0, rfl, ?_, ?_⟩⟩, below_sets g (by omega) _ _ (below_drewN hb q)⟩
      · rw [size_sets]
        exact hlt
      · have hj' : j < zs.length := by simpa using hj
        rw [List.take_of_length_le (by omega)]
        rw [World.cell?_setCells_in g _ 0 _ (fun i hi => ?_) j (by simpa using hj)]
        · simp
        · have hi' : i < zs.length := by simpa using hi
          obtain ⟨p, off, h1, h2, h3⟩ := hI i hi'
          injection h1 with h1
          injection h1 with e1 e2
          subst e1 e2
          rw [show (w.drewN q).cell? ⟨g, 0 + i, none⟩ = w.cell? ⟨g, 0 + i, none⟩ from rfl, h3]
          rfl

set_option maxRecDepth 100000 in
set_option maxHeartbeats 4000000 in
theorem PathOf_any (a : Option Addr) (l : List Snt) (n c : Nat) (g : Gn) (span : Int) (w : World) (hn : l.length = n) (hn1 : n ≤ 1000) (hI : RAt w a 4 Snt.cells l) (hm : ∀ x ∈ l, 0 ≤ x.at_ ∧ x.at_ ≤ 4321439) (hg1 : 0 ≤ g.at_) (hg2 : g.at_ ≤ 4321439) :
    Calls Tryz.prog 56 #[.slice a n c, .agg #[.string g.id, .string g.person, .int .i64 g.at_, .int .i64 g.cents], .int .i64 span] w (PathOut w (pathL (pathP g span) l)) := by
  obtain ⟨i0, hi, hz0, hz1, hz2⟩ := info_parts infoP_int
  have HN := Lib.hid hn
  have HI := Lib.hid hI
  have HM := Lib.hid hm
  clear hI hm
  have HX := Lib.hid (XB.new w [.string g.id, .string g.person, .int .i64 g.at_, .int .i64 g.cents] 102)
  have hP0 : (pSel (pathP g span) l n) = [] := by rw [← hn]; exact pSel_end _ _
  have HP0 := Lib.hid hP0
  clear hP0 hn
  go_enter Tryz.func56, Tryz.ntmps56
  go_wp2_with fail
  go_loopw [7, 8, 9] (fun v i _ wr => ∃ (j : Nat) (iv : Int) (ab : Option Addr) (cb : Nat), j ≤ n ∧ i = .int .i64 iv ∧ iv + 1 = j ∧ v = .slice ab (pSel (pathP g span) l j).length cb ∧ (pSel (pathP g span) l j).length ≤ 12 ∧ wr.ownsRow (w.heap.size + 1) 3 1 v (pSel (pathP g span) l j).length ((pSel (pathP g span) l j).reverse.map (Value.int .i64)) ∧ Below w.heap.size w wr ∧ XB wr w.heap.size [.string g.id, .string g.person, .int .i64 g.at_, .int .i64 g.cents]) (fun _ i _ _ => (intOf i + 1).toNat)
  case atStart => exact ⟨n, _, none, 0, Nat.le_refl _, rfl, by omega, by rw [HP0.out]; rfl, by rw [HP0.out]; simp, by rw [HP0.out]; exact World.ownsRow_nil _ _ _ _, (Below.refl _ _).alloc (Nat.le_refl _) _, HX.out⟩
  case round =>
    obtain ⟨j, iv, ab, cb, hj, rfl, hiv, rfl, h12, hrow, hB, hX⟩ := hrel
    have hq := hX.1
    obtain ⟨g0, g1, g2, g3⟩ := hX.at4
    have HR := Lib.hid hrow
    have HX1 := Lib.hid hX
    clear hrow hX HX HP0
    by_cases hgo : 0 < j ∧ (pSel (pathP g span) l j).length < 12
    · obtain ⟨hj0, hl12⟩ := hgo
      obtain ⟨m, rfl⟩ : ∃ m, j = m + 1 := ⟨j - 1, by omega⟩
      obtain rfl : iv = (m : Int) := by omega
      clear hiv
      have hkl : m < l.length := by have := HN.out; omega
      obtain ⟨p, off, rfl, hp, c0, c1, c2, c3⟩ := (HI.out.below hB).at4 hkl (v0 := .string l[m].id) (v1 := .string l[m].person) (v2 := .string l[m].letter) (v3 := .int .i64 l[m].at_) rfl
      obtain ⟨m1, m2⟩ := HM.out l[m] (List.getElem_mem hkl)
      have HS := Lib.hid (pSel_step (pathP g span) l m hkl)
      have HY := Lib.hid (@pathP_yes g span l[m])
      have HN1 := Lib.hid (@pathP_no1 g span l[m])
      have HN2 := Lib.hid (@pathP_no2 g span l[m])
      have HN3 := Lib.hid (@pathP_no3 g span l[m])
      generalize pathP g span l[m] = b at *
      generalize l[m] = x at *
      obtain ⟨id, person, letter, at_⟩ := x
      simp only at c0 c1 c2 c3 m1 m2
      generalize pSel (pathP g span) l (m + 1) = L at *
      have hwr : IntKind.i64.wrap (g.at_ - at_) = g.at_ - at_ := IntWalk.i64_in _ (by omega)
      go_wp2_with fail
      go_quiet (fail)
      have HR2 := Lib.hid (show (wr.drewN nq).ownsRow _ _ _ _ _ _ from HR.out)
      have HB2 := Lib.hid (below_drewN hB nq)
      have HX2 := Lib.hid (HX1.out.drewN nq)
      have d1 : (wr.drewN nq).cell? ⟨p, off + m * 4 + 1, none⟩ = some (.string person) := c1
      have d2 : (wr.drewN nq).cell? ⟨w.heap.size, 1, none⟩ = some (.string g.person) := g1
      have hsz : wr.heap.size = (wr.drewN nq).heap.size := rfl
      rw [hsz] at hp hq
      clear hsz c0 c1 c2 c3 g0 g1 g2 g3 HR HX1 hB hwr
      generalize wr.drewN nq = wq at *
      have hmn : m < n := by omega
      have hmn1 : (0 : Int) ≤ (m : Int) := by omega
      have hmn2 : (m : Int) < (n : Int) := by omega
      by_cases h1 : (person.toList == g.person.toList) = true
      · by_cases h2 : 0 < g.at_ - at_
        · have h2' : decide (0 < g.at_ - at_) = true := decide_eq_true h2
          have h2b : at_ < g.at_ := by omega
          have h2c : decide (at_ < g.at_) = true := decide_eq_true h2b
          by_cases h3 : g.at_ - at_ ≤ span
          · obtain rfl : b = true := HY.out h1 h2b h3
            have HS' := Lib.hid (HS.out.trans (show _ = (m : Int) :: L by simp))
            clear HY HN1 HN2 HN3 HS
            go_wp2_with fail
            go_quiet (fail)
            have own4 : (wq.drewN nq).ownsRow (w.heap.size + 1) 3 1 (.slice ab L.length cb) L.length (L.reverse.map (Value.int .i64)) := HR2.out
            have hr4 := fun q hq => (own4.lt q hq).1
            have HR4 := Lib.hid hr4
            clear hr4
            go_wp2_with (at_builtin; refine wpList_append_own _ rfl _ _ 22 rfl (w.heap.size + 1) 3 i0 (.int .i64 0) 1 8 Tryz.underlying22 hi hz0 hz1 hz2 rfl (by decide) _ _ _ rfl (own4.alloc _) ⟨wq.heap.size, 0, none⟩ 1 1 [.int .i64 m] rfl rfl ?c1 ?c2 ?c3 ?c4 ?c5 ?_)
            case c1 => exact cells_new (wq.drewN nq) #[.int .i64 m] 3
            case c2 => simp [Value.oneCell']
            case c3 => unfold maxLen; omega
            case c4 => omega
            case c5 => simp [World.drewN]; omega
            intro v2 w5 own5 hgrow5 hne5
            have HX5 := Lib.hid (((HX2.out.drewN nq).alloc _).grown hgrow5 (fun e => by have := HR4.out _ e; omega))
            have HB5 := Lib.hid (((below_drewN HB2.out nq).alloc HB2.out.size _).grown hgrow5 (by have := HB2.out.size; simp [World.drewN]; omega) (fun q hq => by have := HR4.out _ hq; omega))
            obtain ⟨ab2, cb2, rfl⟩ := own_form own5
            have HO := Lib.hid own5
            clear hne5 own5 hgrow5 own4
            go_wp2_with fail
            go_roundw
            case rel => exact ⟨m, _, ab2, cb2, by omega, rfl, by omega, by rw [HS'.out]; rfl, by rw [HS'.out]; simp; omega, by rw [HS'.out]; simpa using HO.out, HB5.out, HX5.out⟩
            case measure => first | (simp [intOf]; done) | (simp [intOf]; omega)
          · have h3' : decide (g.at_ - at_ ≤ span) = false := decide_eq_false h3
            have HNX : b = false := HN3.out (by omega)
            obtain rfl : b = false := HNX
            have HS' := Lib.hid (HS.out.trans (show _ = L by simp))
            clear HY HN1 HN2 HN3 HS
            go_wp2_with fail
            go_quiet (fail)
            go_wp2_with fail
            go_roundw
            case rel => exact ⟨m, _, ab, cb, by omega, rfl, by omega, by rw [HS'.out], by rw [HS'.out]; exact h12, by rw [HS'.out]; exact HR2.out, below_drewN HB2.out _, HX2.out.drewN _⟩
            case measure => first | (simp [intOf]; done) | (simp [intOf]; omega)
        · have h2' : decide (0 < g.at_ - at_) = false := decide_eq_false h2
          have h2b : ¬ at_ < g.at_ := by omega
          have h2c : decide (at_ < g.at_) = false := decide_eq_false h2b
          have HNX : b = false := HN2.out (by omega)
          obtain rfl : b = false := HNX
          have HS' := Lib.hid (HS.out.trans (show _ = L by simp))
          clear HY HN1 HN2 HN3 HS
          go_wp2_with fail
          go_quiet (fail)
          go_wp2_with fail
          go_roundw
          case rel => exact ⟨m, _, ab, cb, by omega, rfl, by omega, by rw [HS'.out], by rw [HS'.out]; exact h12, by rw [HS'.out]; exact HR2.out, below_drewN HB2.out _, HX2.out.drewN _⟩
          case measure => first | (simp [intOf]; done) | (simp [intOf]; omega)
      · have h1 : (person.toList == g.person.toList) = false := by simpa using h1
        have HNX : b = false := HN1.out h1
        obtain rfl : b = false := HNX
        have HS' := Lib.hid (HS.out.trans (show _ = L by simp))
        clear HY HN1 HN2 HN3 HS
        go_wp2_with fail
        go_quiet (fail)
        go_wp2_with fail
        go_roundw
        case rel => exact ⟨m, _, ab, cb, by omega, rfl, by omega, by rw [HS'.out], by rw [HS'.out]; exact h12, by rw [HS'.out]; exact HR2.out, below_drewN HB2.out _, HX2.out.drewN _⟩
        case measure => first | (simp [intOf]; done) | (simp [intOf]; omega)
    · have HPL : Hid (pathL (pathP g span) l = pSel (pathP g span) l j) := by
        by_cases h0 : j = 0
        · subst h0
          exact Lib.hid (pathL_zero _ _ h12)
        · exact Lib.hid (pathL_full _ _ j (by have := HN.out; omega) (by omega))
      generalize pathL (pathP g span) l = R at *
      generalize pSel (pathP g span) l j = L at *
      have C := Lib.hid (reverse_own (zs := L.reverse) (B := w.heap.size) (a := w) HR.out (by omega) (by omega) hB)
      rw [List.reverse_reverse] at C
      by_cases h0 : j = 0
      · obtain rfl : iv = -1 := by omega
        go_wp2_with fail
        with_reducible refine C.out.mono ?_
        rintro e w1 ⟨rfl, hI1, hB1⟩
        go_wp2_with fail
        go_ret
        exact ⟨_, rfl, by rw [HPL.out]; exact hI1, hB1⟩
      · have hiv0 : 0 ≤ iv := by omega
        have hl12 : ¬ L.length < 12 := by omega
        clear hgo
        go_wp2_with fail
        with_reducible refine C.out.mono ?_
        rintro e w1 ⟨rfl, hI1, hB1⟩
        go_wp2_with fail
        go_ret
        exact ⟨_, rfl, by rw [HPL.out]; exact hI1, hB1⟩
end Go.Proofs.YtgdagknjnidmiaaGreatDoor
