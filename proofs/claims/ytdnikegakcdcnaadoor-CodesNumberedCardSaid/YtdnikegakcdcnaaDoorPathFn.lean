/- measure.Path; cmp.Or at errors. -/
import Derived.Test.YtdnikegakcdcnaaDoorPathOf
import Derived.Test.YtdnikegakcdcnaaDoorCheckSent
import Derived.Test.YtdnikegakcdcnaaDoorSentFault
import Derived.Test.YtdnikegakcdcnaaDoorCheckGains
set_option linter.unusedVariables false
namespace Go.Proofs.YtdnikegakcdcnaaDoor
open Go.RowKit

def pathErr (l : List Snt) (g : Gn) (span : Int) : Int := if sentE l ≠ 0 then sentE l else if gainE [g] ≠ 0 then gainE [g] else if 1 ≤ span ∧ span ≤ 4321440 then 0 else 1
def PathFnOut (w : World) (l : List Snt) (g : Gn) (span : Int) (e : Ending) (w' : World) : Prop :=
  ∃ v, e = .returned (.tuple #[v, .int .i64 (pathErr l g span)]) ∧ (pathErr l g span = 0 → IntsIs w' v (pathL (pathP g span) l)) ∧ Below w.heap.size w w'
theorem pathFn_bad {w w' : World} {l : List Snt} {g : Gn} {span z : Int} {v : Value} (h : pathErr l g span = z) (hz : z ≠ 0) (hb : Below w.heap.size w w') : PathFnOut w l g span (.returned (.tuple #[v, .int .i64 z])) w' :=
  ⟨v, by rw [h], fun h0 => absurd (h.symm.trans h0) hz, hb⟩
theorem gn_block {w : World} {p : Nat} {g : Gn} {t : TypeId} (h : w.heap[p]? = some (.cells #[.string g.id, .string g.person, .int .i64 g.at_, .int .i64 g.cents] t (0, 0))) : RAt w (some ⟨p, 0, none⟩) 4 Gn.cells [g] :=
  RAt.block (l := [g]) (f := Gn.cells) (by simpa [Gn.cells] using h) (fun x _ => x.len)

set_option maxRecDepth 100000 in
set_option maxHeartbeats 4000000 in
theorem Path_any (a : Option Addr) (l : List Snt) (n c : Nat) (g : Gn) (span : Int) (w : World) (hn : l.length = n) (hn1 : n ≤ 1000) (hI : RAt w a 4 Snt.cells l) (hok : ∀ x ∈ l, x.ok) (hg : g.ok) :
    Calls Tryd.prog 18 #[.slice a n c, .agg #[.string g.id, .string g.person, .int .i64 g.at_, .int .i64 g.cents], .int .i64 span] w (PathFnOut w l g span) := by
  have B0 := (Below.refl w.heap.size w).alloc (Nat.le_refl _) (.cells #[.string g.id, .string g.person, .int .i64 g.at_, .int .i64 g.cents] 35)
  have HX := Lib.hid (XB.new w [.string g.id, .string g.person, .int .i64 g.at_, .int .i64 g.cents] 35)
  have C1 := Lib.hid (fun w' (hb : Below w.heap.size w w') => CheckSent_any a l n c w' hn hn1 (hI.below hb) hok)
  have C2 := Lib.hid (fun (w' : World) => CheckGains_any (some ⟨w'.heap.size, 0, none⟩) [g] 1 1 (w'.alloc (.cells #[.string g.id, .string g.person, .int .i64 g.at_, .int .i64 g.cents] 35)) rfl (by omega) (gn_block (heap_alloc_new _ _)) (fun x hx => by simp at hx; subst hx; exact hg))
  have C3 := Lib.hid (fun w' (hb : Below w.heap.size w w') (h1 : sentE l = 0) (h2 : gainE [g] = 0) => path_any a l n c g span w' hn hn1 (hI.below hb) (sentE_mom h1) (gainE_mom h2).1 (gainE_mom h2).2)
  have HE := Lib.hid (show pathErr l g span = if sentE l ≠ 0 then sentE l else if gainE [g] ≠ 0 then gainE [g] else if 1 ≤ span ∧ span ≤ 4321440 then 0 else 1 from rfl)
  have HB0 := Lib.hid B0
  clear hn hI hok hg B0
  generalize sentE l = z1 at *
  generalize gainE [g] = z2 at *
  go_enter Tryd.func18, Tryd.ntmps18
  go_wp2_with fail
  with_reducible refine (C1.out _ HB0.out).mono ?_
  rintro e w1 ⟨rfl, b1⟩
  have HB1 := Lib.hid (HB0.out.trans (b1.mono HB0.out.size))
  have X1 := HX.out.below b1
  obtain ⟨x0, x1, x2, x3⟩ := X1.at4
  have hq := X1.1
  have HX1 := Lib.hid X1
  clear X1 b1 HX HB0
  by_cases h1 : z1 = 0
  · subst h1
    go_wp2_with fail
    with_reducible refine (C2.out _).mono ?_
    rintro e w2 ⟨rfl, b2⟩
    have HB2 := Lib.hid ((HB1.out.alloc HB1.out.size _).trans (b2.mono (by have := HB1.out.size; simp; omega)))
    have X2 := (HX1.out.alloc _).below b2
    clear x0 x1 x2 x3 hq
    obtain ⟨x0, x1, x2, x3⟩ := X2.at4
    have hq := X2.1
    clear X2 b2 HX1 HB1
    by_cases h2 : z2 = 0
    · subst h2
      by_cases h3 : 1 ≤ span ∧ span ≤ 4321440
      · have HZ := Lib.hid (show pathErr l g span = 0 by rw [HE.out]; simp; omega)
        clear HE
        obtain ⟨h3a, h3b⟩ := h3
        go_wp2_with fail
        with_reducible refine (within_yes _ _ _ _ h3a h3b).mono ?_
        rintro e w3 ⟨rfl, rfl⟩
        go_wp2_with fail
        with_reducible refine (C3.out _ HB2.out (by trivial) (by trivial)).mono ?_
        rintro e w3 ⟨v, rfl, hI3, b3⟩
        have HB3 := Lib.hid (HB2.out.trans (b3.mono HB2.out.size))
        go_wp2_with fail
        go_ret2
        exact ⟨v, by rw [HZ.out]; rfl, fun _ => hI3, HB3.out⟩
      · have HZ := Lib.hid (show pathErr l g span = 1 by rw [HE.out]; simp; omega)
        have h3' : span < 1 ∨ 4321440 < span := by omega
        clear HE h3
        go_wp2_with fail
        with_reducible refine (within_no _ _ _ _ h3').mono ?_
        rintro e w3 ⟨rfl, rfl⟩
        go_wp2_with fail
        go_ret2
        exact pathFn_bad HZ.out (by decide) HB2.out
    · have e1 : (z2 != 0) = true := by simp [h2]
      have HZ := Lib.hid (show pathErr l g span = z2 by rw [HE.out]; simp [h2])
      go_wp2_with fail
      go_ret2
      exact pathFn_bad HZ.out h2 HB2.out
  · have e1 : (z1 != 0) = true := by simp [h1]
    have HZ := Lib.hid (show pathErr l g span = z1 by rw [HE.out]; simp [h1])
    go_wp2_with fail
    go_ret2
    exact pathFn_bad HZ.out h1 HB1.out

/-- the first of some numbers that is not 0 -/
def orE : List Int → Int
  | [] => 0
  | z :: l => if z = 0 then orE l else z
theorem orE_drop (zs : List Int) (k : Nat) (h : k < zs.length) : orE (zs.drop k) = if zs[k] = 0 then orE (zs.drop (k + 1)) else zs[k] := by
  rw [List.drop_eq_getElem_cons h]; rfl
theorem orErr_any (h : Nat) (zs : List Int) (n c : Nat) (t : TypeId) (w : World) (hn : zs.length = n) (hn1 : n ≤ 1000)
    (hb : w.heap[h]? = some (.cells (zs.map (Value.int .i64)).toArray t (0, 0))) :
    Calls Tryd.prog 19 #[.slice (some ⟨h, 0, none⟩) n c] w fun e w' => e = .returned (.int .i64 (orE zs)) ∧ w = w' := by
  have HB := Lib.hid hb
  have HN := Lib.hid hn
  clear hb hn
  go_enter Tryd.func19, Tryd.ntmps19
  go_wp2
  go_loop [2, 5, 8] (fun r v i => r = .int .i64 0 ∧ ∃ k : Nat, k ≤ n ∧ i = .int .i64 k ∧ Hid (orE (zs.drop k) = orE zs)) (fun _ _ i => n - (intOf i).toNat)
  case atStart => exact ⟨rfl, 0, Nat.zero_le _, rfl, rfl⟩
  case round =>
    obtain ⟨rfl, k, hk, rfl, HO⟩ := hrel
    by_cases hlt : k < n
    · have hkz : k < zs.length := by have := HN.out; omega
      have hcell : w.cell? ⟨h, k, none⟩ = some (.int .i64 zs[k]) := by simp [World.cell?, HB.out, hkz]
      have HD := Lib.hid (orE_drop zs k hkz)
      generalize hz : zs[k] = z at *
      clear hz
      by_cases h0 : z = 0
      · subst h0
        go_wp2
        go_round
        case rel => exact ⟨rfl, k + 1, by omega, by go_num, by show orE (zs.drop (k + 1)) = _; rw [← HO.out, HD.out, if_pos rfl]⟩
        case measure => simp [intOf]; omega
      · have e1 : (z != 0) = true := by simp [h0]
        go_wp2
        go_ret
        exact ⟨ret_int (by rw [← HO.out, HD.out, if_neg h0]), rfl⟩
    · go_wp2
      go_ret
      refine ⟨ret_int ?_, rfl⟩
      rw [← HO.out, List.drop_of_length_le (by have := HN.out; omega)]
      rfl
end Go.Proofs.YtdnikegakcdcnaaDoor
