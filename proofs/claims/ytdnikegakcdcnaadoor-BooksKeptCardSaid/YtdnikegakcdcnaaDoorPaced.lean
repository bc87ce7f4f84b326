/- How much of a budget may be spent; states of holds (printed by gen_paced.py). -/
import Derived.Test.YtdnikegakcdcnaaDoorCheckBud
import Derived.Test.YtdnikegakcdcnaaDoorMoment
set_option linter.unusedVariables false
namespace Go.Proofs.YtdnikegakcdcnaaDoor
open Go.RowKit

theorem omoment_any (n : Int) (w : World) : Calls Tryd.prog 115 #[.int .i64 n] w fun e w' => e = .returned (.bool (momB n)) ∧ w = w' := by
  by_cases h : 0 ≤ n ∧ n ≤ 4321439
  · have HB := Lib.hid (show momB n = true from decide_eq_true h)
    obtain ⟨h1, h2⟩ := h
    go_enter Tryd.func115, Tryd.ntmps115
    go_wp2_with fail
    with_reducible refine (owithin_yes _ _ _ _ h1 h2).mono ?_
    rintro e w1 ⟨rfl, rfl⟩
    go_wp2
    go_ret
    exact ⟨ret_bool HB.out.symm, rfl⟩
  · have HB := Lib.hid (show momB n = false from decide_eq_false h)
    have h' : n < 0 ∨ 4321439 < n := by omega
    clear h
    go_enter Tryd.func115, Tryd.ntmps115
    go_wp2_with fail
    with_reducible refine (owithin_no _ _ _ _ h').mono ?_
    rintro e w1 ⟨rfl, rfl⟩
    go_wp2
    go_ret
    exact ⟨ret_bool HB.out.symm, rfl⟩
theorem bdB_parts {x : Bd} (h : bdB x = true) : 0 ≤ x.cents ∧ x.cents ≤ 1000000000000 ∧ 0 ≤ x.first ∧ x.first ≤ x.last ∧ x.last ≤ 3000 := by
  unfold bdB at h
  simp only [Bool.and_eq_true, decide_eq_true_eq] at h
  obtain ⟨⟨⟨⟨a, b⟩, c⟩, d⟩, e⟩ := h
  exact ⟨a, b, c, d, e⟩
theorem pac_bd (c a D : Int) (hc0 : 0 ≤ c) (hc1 : c ≤ 1000000000000) (ha0 : 0 ≤ a) (ha1 : a ≤ 4000) (hD : 1 ≤ D) : 0 ≤ c * a ∧ c * a ≤ 4000000000000000 ∧ 0 ≤ c * a / D ∧ c * a / D ≤ 4000000000000000 := by
  have h1 : 0 ≤ c * a := Int.mul_nonneg hc0 ha0
  have h2 : c * a ≤ 1000000000000 * 4000 := Int.mul_le_mul hc1 ha1 ha0 (by omega)
  have h3 : 0 ≤ c * a / D := Int.ediv_nonneg h1 (by omega)
  have h4 : c * a / D ≤ c * a := Int.ediv_le_self _ h1
  omega
theorem pacV_bd (x : Bd) (t : Int) (hx : bdB x = true) (h0 : 0 ≤ t) (h1 : t ≤ 4321439) : 0 ≤ pacV x t ∧ pacV x t ≤ 4000000000000000 := by
  obtain ⟨a, b, c, d, e⟩ := bdB_parts hx
  unfold pacV
  split
  · omega
  · rename_i h2
    split
    · omega
    · rename_i h3
      have := pac_bd x.cents (t / 1440 - x.first + 1) (x.last - x.first + 1) a b (by omega) (by omega) (by omega)
      omega

set_option maxRecDepth 100000 in
set_option maxHeartbeats 2000000 in
theorem paced_any (x : Bd) (t : Int) (w : World) (hx : bdB x = true) (h0 : 0 ≤ t) (h1 : t ≤ 4321439) :
    Calls Tryd.prog 129 #[.agg #[.string x.key, .int .i64 x.cents, .int .i64 x.first, .int .i64 x.last, .bool x.pace], .int .i64 t] w fun e w' => e = .returned (.int .i64 (pacV x t)) ∧ Below w.heap.size w w' := by
  obtain ⟨a, b, c, d, e⟩ := bdB_parts hx
  obtain ⟨V, hV⟩ : ∃ V, pacV x t = V := ⟨_, rfl⟩
  rw [hV]
  have HV := Lib.hid hV.symm
  unfold pacV at HV
  clear hV hx
  obtain ⟨key, cents, first, last, pace⟩ := x
  simp only at a b c d e HV ⊢
  obtain ⟨D, hD⟩ : ∃ D, t / 1440 = D := ⟨_, rfl⟩
  rw [hD] at HV
  have d0 : 0 ≤ D := by omega
  have d1 : D ≤ 3000 := by omega
  by_cases c1 : D < first
  · obtain rfl : V = 0 := HV.out.trans (if_pos c1)
    go_enter Tryd.func129, Tryd.ntmps129
    go_wp2
    go_ret
    exact ⟨rfl, (Below.refl _ _).alloc (Nat.le_refl _) _⟩
  · have HV1 := Lib.hid (HV.out.trans (if_neg c1))
    by_cases c2 : last ≤ D
    · obtain rfl : V = cents := HV1.out.trans (if_pos (.inl c2))
      go_enter Tryd.func129, Tryd.ntmps129
      go_wp2
      go_ret
      exact ⟨rfl, (Below.refl _ _).alloc (Nat.le_refl _) _⟩
    · cases pace with
      | false =>
        obtain rfl : V = cents := HV1.out.trans (if_pos (.inr rfl))
        go_enter Tryd.func129, Tryd.ntmps129
        go_wp2
        go_ret
        exact ⟨rfl, (Below.refl _ _).alloc (Nat.le_refl _) _⟩
      | true =>
        have HV2 := Lib.hid (HV1.out.trans (if_neg (by
          rintro (h | h)
          · exact c2 h
          · cases h)))
        have hb := pac_bd cents (D - first + 1) (last - first + 1) a b (by omega) (by omega) (by omega)
        obtain ⟨b1, b2, b3, b4⟩ := hb
        have e1 : IntKind.i64.wrap (cents * (D - first + 1)) = cents * (D - first + 1) := by rw [IntKind.wrap_i64]; omega
        have e2 : IntKind.i64.wrap (cents * (D - first + 1) / (last - first + 1)) = cents * (D - first + 1) / (last - first + 1) := by rw [IntKind.wrap_i64]; omega
        have e3 : Int.tdiv (cents * (D - first + 1)) (last - first + 1) = cents * (D - first + 1) / (last - first + 1) := Int.tdiv_eq_ediv_of_nonneg b1
        have hne : ¬ (last - first + 1 = 0) := by omega
        clear HV HV1
        go_enter Tryd.func129, Tryd.ntmps129
        go_wp2
        go_ret
        exact ⟨ret_int HV2.out.symm, (Below.refl _ _).alloc (Nat.le_refl _) _⟩

set_option maxRecDepth 100000 in
set_option maxHeartbeats 2000000 in
theorem PacedOf_any (x : Bd) (t : Int) (w : World) (hx : bdB x = true) (h0 : 0 ≤ t) (h1 : t ≤ 4321439) :
    Calls Tryd.prog 55 #[.agg #[.string x.key, .int .i64 x.cents, .int .i64 x.first, .int .i64 x.last, .bool x.pace], .int .i64 t] w fun e w' => e = .returned (.int .i64 (pacV x t)) ∧ Below w.heap.size w w' := by
  obtain ⟨a, b, c, d, e⟩ := bdB_parts hx
  obtain ⟨V, hV⟩ : ∃ V, pacV x t = V := ⟨_, rfl⟩
  rw [hV]
  have HV := Lib.hid hV.symm
  unfold pacV at HV
  clear hV hx
  obtain ⟨key, cents, first, last, pace⟩ := x
  simp only at a b c d e HV ⊢
  obtain ⟨D, hD⟩ : ∃ D, t / 1440 = D := ⟨_, rfl⟩
  rw [hD] at HV
  have d0 : 0 ≤ D := by omega
  have d1 : D ≤ 3000 := by omega
  by_cases c1 : D < first
  · obtain rfl : V = 0 := HV.out.trans (if_pos c1)
    go_enter Tryd.func55, Tryd.ntmps55
    go_wp2
    go_ret
    exact ⟨rfl, (Below.refl _ _).alloc (Nat.le_refl _) _⟩
  · have HV1 := Lib.hid (HV.out.trans (if_neg c1))
    by_cases c2 : last ≤ D
    · obtain rfl : V = cents := HV1.out.trans (if_pos (.inl c2))
      go_enter Tryd.func55, Tryd.ntmps55
      go_wp2
      go_ret
      exact ⟨rfl, (Below.refl _ _).alloc (Nat.le_refl _) _⟩
    · cases pace with
      | false =>
        obtain rfl : V = cents := HV1.out.trans (if_pos (.inr rfl))
        go_enter Tryd.func55, Tryd.ntmps55
        go_wp2
        go_ret
        exact ⟨rfl, (Below.refl _ _).alloc (Nat.le_refl _) _⟩
      | true =>
        have HV2 := Lib.hid (HV1.out.trans (if_neg (by
          rintro (h | h)
          · exact c2 h
          · cases h)))
        have hb := pac_bd cents (D - first + 1) (last - first + 1) a b (by omega) (by omega) (by omega)
        obtain ⟨b1, b2, b3, b4⟩ := hb
        have e1 : IntKind.i64.wrap (cents * (D - first + 1)) = cents * (D - first + 1) := by rw [IntKind.wrap_i64]; omega
        have e2 : IntKind.i64.wrap (cents * (D - first + 1) / (last - first + 1)) = cents * (D - first + 1) / (last - first + 1) := by rw [IntKind.wrap_i64]; omega
        have e3 : Int.tdiv (cents * (D - first + 1)) (last - first + 1) = cents * (D - first + 1) / (last - first + 1) := Int.tdiv_eq_ediv_of_nonneg b1
        have hne : ¬ (last - first + 1 = 0) := by omega
        clear HV HV1
        go_enter Tryd.func55, Tryd.ntmps55
        go_wp2
        go_ret
        exact ⟨ret_int HV2.out.symm, (Below.refl _ _).alloc (Nat.le_refl _) _⟩

set_option maxHeartbeats 1000000 in
theorem stateAt_any (x : Hd) (t : Int) (w : World) :
    Calls Tryd.prog 140 #[.agg #[.int .i64 x.no, .string x.key, .int .i64 x.cents, .int .i64 x.at_, .int .i64 x.until_, .int .i64 x.state], .int .i64 t] w fun e w' => e = .returned (.int .i64 (stV x t)) ∧ Below w.heap.size w w' := by
  obtain ⟨V, hV⟩ : ∃ V, stV x t = V := ⟨_, rfl⟩
  rw [hV]
  have HV := Lib.hid hV.symm
  unfold stV at HV
  clear hV
  obtain ⟨no, key, cents, at_, until_, state⟩ := x
  simp only at HV ⊢
  by_cases c1 : state = 1
  · by_cases c2 : until_ ≤ t
    · obtain rfl : V = 4 := HV.out.trans (if_pos ⟨c1, c2⟩)
      subst c1
      go_enter Tryd.func140, Tryd.ntmps140
      go_wp2
      go_ret
      exact ⟨rfl, (Below.refl _ _).alloc (Nat.le_refl _) _⟩
    · obtain rfl : V = state := HV.out.trans (if_neg (fun h => c2 h.2))
      subst c1
      go_enter Tryd.func140, Tryd.ntmps140
      go_wp2
      go_ret
      exact ⟨rfl, (Below.refl _ _).alloc (Nat.le_refl _) _⟩
  · obtain rfl : V = state := HV.out.trans (if_neg (fun h => c1 h.1))
    have e1 : (V == 1) = false := by simpa using c1
    go_enter Tryd.func140, Tryd.ntmps140
    go_wp2
    go_ret
    exact ⟨rfl, (Below.refl _ _).alloc (Nat.le_refl _) _⟩

set_option maxHeartbeats 1000000 in
theorem stateAtRef_any (x : Hd) (t : Int) (w : World) :
    Calls Tryd.prog 141 #[.agg #[.int .i64 x.no, .string x.key, .int .i64 x.cents, .int .i64 x.at_, .int .i64 x.until_, .int .i64 x.state], .int .i64 t] w fun e w' => e = .returned (.int .i64 (stV x t)) ∧ Below w.heap.size w w' := by
  obtain ⟨V, hV⟩ : ∃ V, stV x t = V := ⟨_, rfl⟩
  rw [hV]
  have HV := Lib.hid hV.symm
  unfold stV at HV
  clear hV
  obtain ⟨no, key, cents, at_, until_, state⟩ := x
  simp only at HV ⊢
  by_cases c1 : state = 1
  · by_cases c2 : until_ ≤ t
    · obtain rfl : V = 4 := HV.out.trans (if_pos ⟨c1, c2⟩)
      subst c1
      go_enter Tryd.func141, Tryd.ntmps141
      go_wp2
      go_ret
      exact ⟨rfl, (Below.refl _ _).alloc (Nat.le_refl _) _⟩
    · obtain rfl : V = state := HV.out.trans (if_neg (fun h => c2 h.2))
      subst c1
      go_enter Tryd.func141, Tryd.ntmps141
      go_wp2
      go_ret
      exact ⟨rfl, (Below.refl _ _).alloc (Nat.le_refl _) _⟩
  · obtain rfl : V = state := HV.out.trans (if_neg (fun h => c1 h.1))
    have e1 : (V == 1) = false := by simpa using c1
    go_enter Tryd.func141, Tryd.ntmps141
    go_wp2
    go_ret
    exact ⟨rfl, (Below.refl _ _).alloc (Nat.le_refl _) _⟩

theorem bud_block {w : World} {h : Nat} {x : Bd} (hb : w.heap[h]? = some (.cells #[.string x.key, .int .i64 x.cents, .int .i64 x.first, .int .i64 x.last, .bool x.pace] 81 (0, 0))) : RAt w (some ⟨h, 0, none⟩) 5 Bd.cells [x] :=
  RAt.block (l := [x]) (t := 81) (by simpa [Bd.cells] using hb) (fun x _ => x.len)
/-- what Paced gives -/
def pacO (x : Bd) (t : Int) : Int × Int := if budE [x] ≠ 0 then (0, budE [x]) else if momB t = false then (0, 1) else (pacV x t, 0)
set_option maxHeartbeats 2000000 in
theorem Paced_any (x : Bd) (t : Int) (w : World) (hok : x.ok) :
    Calls Tryd.prog 53 #[.agg #[.string x.key, .int .i64 x.cents, .int .i64 x.first, .int .i64 x.last, .bool x.pace], .int .i64 t] w fun e w' => e = .returned (.tuple #[.int .i64 (pacO x t).1, .int .i64 (pacO x t).2]) ∧ Below w.heap.size w w' := by
  obtain ⟨O, hO⟩ : ∃ O, pacO x t = O := ⟨_, rfl⟩
  rw [hO]
  have HO := Lib.hid hO.symm
  unfold pacO at HO
  clear hO
  have HX := Lib.hid (XB.new w [.string x.key, .int .i64 x.cents, .int .i64 x.first, .int .i64 x.last, .bool x.pace] 81)
  have HB := Lib.hid ((Below.refl w.heap.size w).alloc (Nat.le_refl _) (.cells #[.string x.key, .int .i64 x.cents, .int .i64 x.first, .int .i64 x.last, .bool x.pace] 81))
  simp only [List.toArray] at HX
  go_enter Tryd.func53, Tryd.ntmps53
  go_wp2_with fail
  generalize hq : w.heap.size = q at *
  have hz : (w.alloc (.cells #[.string x.key, .int .i64 x.cents, .int .i64 x.first, .int .i64 x.last, .bool x.pace] 81)).heap.size = q + 1 := by rw [World.size_alloc, hq]
  generalize w.alloc (.cells #[.string x.key, .int .i64 x.cents, .int .i64 x.first, .int .i64 x.last, .bool x.pace] 81) = w1 at *
  have HQ := Lib.hid hq
  have hnb := heap_alloc_new w1 (.cells #[.string x.key, .int .i64 x.cents, .int .i64 x.first, .int .i64 x.last, .bool x.pace] 81)
  rw [hz] at hnb
  have C := Lib.hid (CheckBudgets_any (some ⟨q + 1, 0, none⟩) [x] 1 1 (w1.alloc (.cells #[.string x.key, .int .i64 x.cents, .int .i64 x.first, .int .i64 x.last, .bool x.pace] 81)) rfl (by omega) (by omega) (by unfold maxLen; omega) (bud_block hnb) (by simpa using hok))
  have HX2 := Lib.hid (HX.out.alloc (.cells #[.string x.key, .int .i64 x.cents, .int .i64 x.first, .int .i64 x.last, .bool x.pace] 81))
  have HB2 := Lib.hid (HB.out.alloc (by have := HB.out.size; omega) (.cells #[.string x.key, .int .i64 x.cents, .int .i64 x.first, .int .i64 x.last, .bool x.pace] 81))
  have HZ := Lib.hid hz
  clear hq hnb HX HB hz
  with_reducible refine C.out.mono ?_
  rintro e w2 ⟨rfl, b2⟩
  have hX3 := HX2.out.below b2
  have HB3 := Lib.hid (HB2.out.trans (b2.mono (by have := HB2.out.size; have := HQ.out; omega)))
  clear C b2 HX2 HB2 HZ
  obtain ⟨x0, x1, x2, x3, x4⟩ := hX3.at5
  clear hX3
  obtain ⟨E, hE⟩ : ∃ E, budE [x] = E := ⟨_, rfl⟩
  rw [hE] at HO ⊢
  have HBB := Lib.hid (fun h : E = 0 => budE_ok (hE.trans h) x (by simp))
  clear hE
  by_cases hE0 : E = 0
  · have HO1 := Lib.hid (HO.out.trans (if_neg (by simpa using hE0)))
    have hbb := HBB.out hE0
    have HB' := Lib.hid hbb
    subst hE0
    clear HO HBB hbb
    go_wp2_with fail
    with_reducible refine (omoment_any _ _).mono ?_
    rintro e w3 ⟨rfl, rfl⟩
    by_cases hm : 0 ≤ t ∧ t ≤ 4321439
    · have hmb : momB t = true := decide_eq_true hm
      obtain rfl : O = (pacV x t, 0) := HO1.out.trans (if_neg (by rw [hmb]; decide))
      rw [hmb]
      clear hmb HO1
      obtain ⟨m0, m1⟩ := hm
      go_wp2_with fail
      with_reducible refine (paced_any x t _ HB'.out m0 m1).mono ?_
      rintro e w4 ⟨rfl, b4⟩
      have HB4 := Lib.hid (HB3.out.trans (b4.mono (by have := HB3.out.size; have := HQ.out; omega)))
      go_wp2_with fail
      go_ret2
      exact ⟨rfl, by rw [HQ.out]; exact HB4.out⟩
    · have hmb : momB t = false := decide_eq_false hm
      obtain rfl : O = (0, 1) := HO1.out.trans (if_pos hmb)
      rw [hmb]
      go_wp2_with fail
      go_ret2
      exact ⟨rfl, by rw [HQ.out]; exact HB3.out⟩
  · obtain rfl : O = (0, E) := HO.out.trans (if_pos hE0)
    go_wp2_with fail
    go_ret2
    exact ⟨rfl, by rw [HQ.out]; exact HB3.out⟩
end Go.Proofs.YtdnikegakcdcnaaDoor
