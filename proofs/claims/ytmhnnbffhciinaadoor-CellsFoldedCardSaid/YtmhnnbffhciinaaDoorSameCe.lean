/- slices.Equal at strings; slices.EqualFunc over cells; handref1.SameCells (printed by gen_samece.py). -/
import Derived.Test.YtmhnnbffhciinaaDoorCheckCells
set_option linter.unusedVariables false
namespace Go.Proofs.YtmhnnbffhciinaaDoor
open Go.RowKit

theorem equal_strs2 (a a' : Option Addr) (l l' : List ByteArray) (n n' c c' : Nat) (w : World) (hn : l.length = n) (hn' : l'.length = n') (hn1 : n ≤ 1000) (hn2 : n' ≤ 1000) (h : StrsAt w a l) (h' : StrsAt w a' l') :
    Calls Tryd.prog 29 #[.slice a n c, .slice a' n' c'] w fun e w' => e = .returned (.bool (decide (l = l'))) ∧ ∃ q, w' = w.drewN q := by
  by_cases hl : n = n'
  · subst hl
    cases n with
    | zero =>
      refine (Tryd.slices_Equal_string_empty a a' c 0 c' w (by omega)).mono ?_
      rintro e w' ⟨rfl, rfl⟩
      refine ⟨?_, 0, rfl⟩
      have e1 := List.eq_nil_of_length_eq_zero hn
      have e2 := List.eq_nil_of_length_eq_zero hn'
      subst e1 e2
      rfl
    | succ m =>
      obtain ⟨p, off, rfl, -, -⟩ := h 0 (by omega)
      obtain ⟨p2, off2, rfl, -, -⟩ := h' 0 (by omega)
      refine (Tryd.slices_Equal_string p off (m + 1) c p2 off2 (m + 1) c' l l' w (by omega) (by omega) (by omega) (by omega) (fun j hj => ?_) (fun j hj => ?_)).mono ?_
      · obtain ⟨p', off', h1, h2, h3⟩ := h j hj
        injection h1 with h1
        injection h1 with e1 e2
        subst e1 e2
        rw [h3, List.getD_eq_getElem?_getD, List.getElem?_eq_getElem hj]
        rfl
      · obtain ⟨p', off', h1, h2, h3⟩ := h' j hj
        injection h1 with h1
        injection h1 with e1 e2
        subst e1 e2
        rw [h3, List.getD_eq_getElem?_getD, List.getElem?_eq_getElem hj]
        rfl
      · rintro e w' ⟨rfl, hw⟩
        exact ⟨by rw [List.take_of_length_le (by omega), List.take_of_length_le (by omega)], hw⟩
  · refine (Tryd.slices_Equal_string_lens a a' n c n' c' w hl).mono ?_
    rintro e w' ⟨rfl, rfl⟩
    refine ⟨?_, 0, rfl⟩
    rw [decide_eq_false (fun e => hl (by rw [← hn, ← hn', e]))]
/-- the same cells -/
def sameB (l m : List Ce) : Bool := decide (l.map Ce.el = m.map Ce.el)
theorem sameB_len {l m : List Ce} (h : l.length ≠ m.length) : sameB l m = false := by
  unfold sameB
  exact decide_eq_false (fun e => h (by have := congrArg List.length e; simpa using this))
theorem sameB_no {l m : List Ce} {k : Nat} (h1 : k < l.length) (h2 : k < m.length) (h : decide (l[k].el = m[k].el) = false) : sameB l m = false := by
  unfold sameB
  refine decide_eq_false (fun e => of_decide_eq_false h ?_)
  have : (l.map Ce.el)[k]? = (m.map Ce.el)[k]? := by rw [e]
  simpa [h1, h2] using this
theorem sameB_step {l m : List Ce} {k : Nat} (h1 : k < l.length) (h2 : k < m.length) (h : decide (l[k].el = m[k].el) = true) (e : (l.map Ce.el).take k = (m.map Ce.el).take k) : (l.map Ce.el).take (k + 1) = (m.map Ce.el).take (k + 1) := by
  rw [List.take_succ_eq_append_getElem (by simpa using h1), List.take_succ_eq_append_getElem (by simpa using h2), e]
  simp only [List.getElem_map, of_decide_eq_true h]
theorem sameB_end {l m : List Ce} {k : Nat} (h1 : l.length = k) (h2 : m.length = k) (e : (l.map Ce.el).take k = (m.map Ce.el).take k) : sameB l m = true := by
  unfold sameB
  rw [List.take_of_length_le (by simp; omega), List.take_of_length_le (by simp; omega)] at e
  exact decide_eq_true e
theorem el_parts (x y : Ce) : decide (x.el = y.el) = ((decide (x.keys = y.keys) && decide (x.many = y.many)) && decide (x.cents = y.cents)) := by
  rw [Bool.eq_iff_iff]
  simp only [Bool.and_eq_true, decide_eq_true_eq, Ce.el, Prod.mk.injEq, and_assoc]

theorem sameCe1_any (x y : Ce) (w : World) (h : StrsAt w x.tv x.keys) (h' : StrsAt w y.tv y.keys) (hl : x.keys.length ≤ 1000) (hl' : y.keys.length ≤ 1000) :
    Calls Tryd.prog 36 #[.agg #[.slice x.tv x.keys.length x.tc, .int .i64 x.many, .int .i64 x.cents], .agg #[.slice y.tv y.keys.length y.tc, .int .i64 y.many, .int .i64 y.cents]] w
      fun e w' => e = .returned (.bool (decide (x.el = y.el))) ∧ Below w.heap.size w w' := by
  obtain ⟨tv, tc, ks, many, cents⟩ := x
  obtain ⟨tv', tc', ks', many', cents'⟩ := y
  simp only at h h' hl hl' ⊢
  rw [el_parts]
  simp only
  have C := Lib.hid (fun w (h : StrsAt w tv ks) (h' : StrsAt w tv' ks') => equal_strs2 tv tv' ks ks' ks.length ks'.length tc tc' w rfl rfl hl hl' h h')
  obtain ⟨n, hn⟩ : ∃ n, ks.length = n := ⟨_, rfl⟩
  obtain ⟨n', hn'⟩ : ∃ n, ks'.length = n := ⟨_, rfl⟩
  rw [hn, hn'] at C ⊢
  have HT1 := Lib.hid (((h.below ((Below.refl _ _).alloc (Nat.le_refl _) (.cells #[.slice tv n tc, .int .i64 many, .int .i64 cents] 44)))).below ((Below.refl _ _).alloc (Nat.le_refl _) (.cells #[.slice tv' n' tc', .int .i64 many', .int .i64 cents'] 44)))
  have HT2 := Lib.hid (((h'.below ((Below.refl _ _).alloc (Nat.le_refl _) (.cells #[.slice tv n tc, .int .i64 many, .int .i64 cents] 44)))).below ((Below.refl _ _).alloc (Nat.le_refl _) (.cells #[.slice tv' n' tc', .int .i64 many', .int .i64 cents'] 44)))
  clear h h' hl hl' hn hn'
  generalize decide (ks = ks') = b1 at *
  cases b1 with
  | false =>
    go_enter Tryd.func36, Tryd.ntmps36
    go_wp2_with fail
    with_reducible refine (C.out _ (HT1.out) (HT2.out)).mono ?_
    rintro e w1 ⟨rfl, q1, rfl⟩
    go_wp2_with fail
    go_ret
    exact ⟨rfl, below_drewN (((Below.refl _ _).alloc (Nat.le_refl _) _).alloc (by simp) _) _⟩
  | true =>
    by_cases h1 : many = many'
    · subst h1
      by_cases h2 : cents = cents'
      · subst h2
        go_enter Tryd.func36, Tryd.ntmps36
        go_wp2_with fail
        with_reducible refine (C.out _ (HT1.out) (HT2.out)).mono ?_
        rintro e w1 ⟨rfl, q1, rfl⟩
        go_wp2_with fail
        go_ret
        refine ⟨ret_bool (by simp), ?_⟩
        exact below_drewN (((Below.refl _ _).alloc (Nat.le_refl _) _).alloc (by simp) _) _
      · rw [decide_eq_false h2]
        have hA : (cents == cents') = false := by simpa using h2
        go_enter Tryd.func36, Tryd.ntmps36
        go_wp2_with fail
        with_reducible refine (C.out _ (HT1.out) (HT2.out)).mono ?_
        rintro e w1 ⟨rfl, q1, rfl⟩
        go_wp2_with fail
        go_ret
        refine ⟨ret_bool (by simp), ?_⟩
        exact below_drewN (((Below.refl _ _).alloc (Nat.le_refl _) _).alloc (by simp) _) _
    · rw [decide_eq_false h1]
      have hA : (many == many') = false := by simpa using h1
      go_enter Tryd.func36, Tryd.ntmps36
      go_wp2_with fail
      with_reducible refine (C.out _ (HT1.out) (HT2.out)).mono ?_
      rintro e w1 ⟨rfl, q1, rfl⟩
      go_wp2_with fail
      go_ret
      refine ⟨ret_bool (by simp), ?_⟩
      exact below_drewN (((Below.refl _ _).alloc (Nat.le_refl _) _).alloc (by simp) _) _

set_option maxRecDepth 100000 in
set_option maxHeartbeats 4000000 in
theorem sameCeF_any (a a' : Option Addr) (l l' : List Ce) (n n' c c' : Nat) (w : World) (hn : l.length = n) (hn' : l'.length = n') (hn1 : n ≤ 1000) (hn2 : n' ≤ 1000) (hI : RAt w a 3 Ce.cells l) (hT : TagsAt Ce.tv Ce.keys w l) (hI' : RAt w a' 3 Ce.cells l') (hT' : TagsAt Ce.tv Ce.keys w l') (hk : ∀ x ∈ l, x.keys.length ≤ 1000) (hk' : ∀ x ∈ l', x.keys.length ≤ 1000) :
    Calls Tryd.prog 35 #[.slice a n c, .slice a' n' c', .func (.func 36) #[] #[]] w fun e w' => e = .returned (.bool (sameB l l')) ∧ Below w.heap.size w w' := by
  have HN := Lib.hid hn
  have HN' := Lib.hid hn'
  have HI := Lib.hid hI
  have HI' := Lib.hid hI'
  have HT := Lib.hid hT
  have HT' := Lib.hid hT'
  have HK := Lib.hid hk
  have HK' := Lib.hid hk'
  obtain ⟨R, hR⟩ : ∃ R, R = sameB l l' := ⟨_, rfl⟩
  rw [← hR]
  have HR := Lib.hid hR
  clear hn hn' hI hT hI' hT' hk hk' hR
  by_cases hnn : n = n'
  · subst hnn
    go_enter Tryd.func35, Tryd.ntmps35
    go_wp2_with fail
    go_loopw [7, 8, 9, 17] (fun _ _ _ i wr => ∃ k : Nat, k ≤ n ∧ i = .int .i64 k ∧ Below w.heap.size w wr ∧ Hid ((l.map Ce.el).take k = (l'.map Ce.el).take k)) (fun _ _ _ i _ => n - (intOf i).toNat)
    case atStart => exact ⟨0, Nat.zero_le _, rfl, Below.refl _ _, Lib.hid rfl⟩
    case round =>
      obtain ⟨k, hk, rfl, hB, HE⟩ := hrel
      by_cases hlt : k < n
      · have hkl : k < l.length := by have := HN.out; omega
        have hkl' : k < l'.length := by have := HN'.out; omega
        obtain ⟨p, off, rfl, hp, c0, c1, c2⟩ := (HI.out.below hB).at3 hkl (v0 := .slice l[k].tv l[k].keys.length l[k].tc) (v1 := .int .i64 l[k].many) (v2 := .int .i64 l[k].cents) rfl
        obtain ⟨p', off', rfl, hp', d0, d1, d2⟩ := (HI'.out.below hB).at3 hkl' (v0 := .slice l'[k].tv l'[k].keys.length l'[k].tc) (v1 := .int .i64 l'[k].many) (v2 := .int .i64 l'[k].cents) rfl
        have HB1 := Lib.hid ((hB.alloc hB.size (.cells #[.slice l[k].tv l[k].keys.length l[k].tc, .int .i64 l[k].many, .int .i64 l[k].cents] 44)))
        have HB2 := Lib.hid (HB1.out.alloc HB1.out.size (.cells #[.slice l'[k].tv l'[k].keys.length l'[k].tc, .int .i64 l'[k].many, .int .i64 l'[k].cents] 44))
        have C := Lib.hid (sameCe1_any l[k] l'[k] _ ((HT.out.below HB2.out) l[k] (List.getElem_mem hkl)) ((HT'.out.below HB2.out) l'[k] (List.getElem_mem hkl')) (HK.out _ (List.getElem_mem hkl)) (HK'.out _ (List.getElem_mem hkl')))
        have HNO := Lib.hid (sameB_no hkl hkl')
        have HST := Lib.hid (fun h => sameB_step hkl hkl' h HE.out)
        clear HB1
        generalize decide (l[k].el = l'[k].el) = b at *
        generalize l[k] = x at *
        generalize l'[k] = y at *
        obtain ⟨tv, tc, ks, many, cents⟩ := x
        obtain ⟨tv', tc', ks', many', cents'⟩ := y
        simp only at c0 c1 c2 d0 d1 d2 C HB2
        cases b with
        | false =>
          have HF := Lib.hid (HR.out.trans (HNO.out rfl))
          go_wp2_with fail
          with_reducible refine C.out.mono ?_
          rintro e w1 ⟨rfl, b1⟩
          have HB3 := Lib.hid (HB2.out.trans (b1.mono HB2.out.size))
          go_wp2_with fail
          go_ret
          exact ⟨ret_bool HF.out.symm, HB3.out⟩
        | true =>
          have HF := Lib.hid (HST.out rfl)
          go_wp2_with fail
          with_reducible refine C.out.mono ?_
          rintro e w1 ⟨rfl, b1⟩
          have HB3 := Lib.hid (HB2.out.trans (b1.mono HB2.out.size))
          go_wp2_with fail
          go_roundw
          case rel => exact ⟨k + 1, by omega, by go_num, HB3.out, HF⟩
          case measure => simp [intOf]; omega
      · obtain rfl : k = n := by omega
        have HF := Lib.hid (HR.out.trans (sameB_end HN.out HN'.out HE.out))
        go_wp2_with fail
        go_ret
        exact ⟨ret_bool HF.out.symm, hB⟩
  · have hA : (n == n') = false := by simpa using hnn
    have hB : (n != n') = true := by simpa using hnn
    have hD : ((n : Int) == (n' : Int)) = false := by simp; omega
    have hE : ((n : Int) != (n' : Int)) = true := by simp; omega
    have HF := Lib.hid (HR.out.trans (sameB_len (by rw [HN.out, HN'.out]; exact hnn)))
    go_enter Tryd.func35, Tryd.ntmps35
    go_wp2_with fail
    go_ret
    exact ⟨ret_bool HF.out.symm, Below.refl _ _⟩

theorem addsCe1_any (x y : Ce) (w : World) (h : StrsAt w x.tv x.keys) (h' : StrsAt w y.tv y.keys) (hl : x.keys.length ≤ 1000) (hl' : y.keys.length ≤ 1000) :
    Calls Tryd.prog 37 #[.agg #[.slice x.tv x.keys.length x.tc, .int .i64 x.many, .int .i64 x.cents], .agg #[.slice y.tv y.keys.length y.tc, .int .i64 y.many, .int .i64 y.cents]] w
      fun e w' => e = .returned (.bool (decide (x.el = y.el))) ∧ Below w.heap.size w w' := by
  obtain ⟨tv, tc, ks, many, cents⟩ := x
  obtain ⟨tv', tc', ks', many', cents'⟩ := y
  simp only at h h' hl hl' ⊢
  rw [el_parts]
  simp only
  have C := Lib.hid (fun w (h : StrsAt w tv ks) (h' : StrsAt w tv' ks') => equal_strs2 tv tv' ks ks' ks.length ks'.length tc tc' w rfl rfl hl hl' h h')
  obtain ⟨n, hn⟩ : ∃ n, ks.length = n := ⟨_, rfl⟩
  obtain ⟨n', hn'⟩ : ∃ n, ks'.length = n := ⟨_, rfl⟩
  rw [hn, hn'] at C ⊢
  have HT1 := Lib.hid (((h.below ((Below.refl _ _).alloc (Nat.le_refl _) (.cells #[.slice tv n tc, .int .i64 many, .int .i64 cents] 44)))).below ((Below.refl _ _).alloc (Nat.le_refl _) (.cells #[.slice tv' n' tc', .int .i64 many', .int .i64 cents'] 44)))
  have HT2 := Lib.hid (((h'.below ((Below.refl _ _).alloc (Nat.le_refl _) (.cells #[.slice tv n tc, .int .i64 many, .int .i64 cents] 44)))).below ((Below.refl _ _).alloc (Nat.le_refl _) (.cells #[.slice tv' n' tc', .int .i64 many', .int .i64 cents'] 44)))
  clear h h' hl hl' hn hn'
  generalize decide (ks = ks') = b1 at *
  by_cases h1 : many = many'
  · subst h1
    by_cases h2 : cents = cents'
    · subst h2
      go_enter Tryd.func37, Tryd.ntmps37
      go_wp2_with fail
      with_reducible refine (C.out _ (HT1.out) (HT2.out)).mono ?_
      rintro e w1 ⟨rfl, q1, rfl⟩
      go_wp2_with fail
      go_ret
      refine ⟨ret_bool (by simp), ?_⟩
      exact below_drewN (((Below.refl _ _).alloc (Nat.le_refl _) _).alloc (by simp) _) _
    · rw [decide_eq_false h2]
      have hA : (cents == cents') = false := by simpa using h2
      go_enter Tryd.func37, Tryd.ntmps37
      go_wp2_with fail
      go_ret
      refine ⟨ret_bool (by simp), ?_⟩
      exact (((Below.refl _ _).alloc (Nat.le_refl _) _).alloc (by simp) _)
  · rw [decide_eq_false h1]
    have hA : (many == many') = false := by simpa using h1
    go_enter Tryd.func37, Tryd.ntmps37
    go_wp2_with fail
    go_ret
    refine ⟨ret_bool (by simp), ?_⟩
    exact (((Below.refl _ _).alloc (Nat.le_refl _) _).alloc (by simp) _)

set_option maxRecDepth 100000 in
set_option maxHeartbeats 4000000 in
theorem addsCeF_any (a a' : Option Addr) (l l' : List Ce) (n n' c c' : Nat) (w : World) (hn : l.length = n) (hn' : l'.length = n') (hn1 : n ≤ 1000) (hn2 : n' ≤ 1000) (hI : RAt w a 3 Ce.cells l) (hT : TagsAt Ce.tv Ce.keys w l) (hI' : RAt w a' 3 Ce.cells l') (hT' : TagsAt Ce.tv Ce.keys w l') (hk : ∀ x ∈ l, x.keys.length ≤ 1000) (hk' : ∀ x ∈ l', x.keys.length ≤ 1000) :
    Calls Tryd.prog 35 #[.slice a n c, .slice a' n' c', .func (.func 37) #[] #[]] w fun e w' => e = .returned (.bool (sameB l l')) ∧ Below w.heap.size w w' := by
  have HN := Lib.hid hn
  have HN' := Lib.hid hn'
  have HI := Lib.hid hI
  have HI' := Lib.hid hI'
  have HT := Lib.hid hT
  have HT' := Lib.hid hT'
  have HK := Lib.hid hk
  have HK' := Lib.hid hk'
  obtain ⟨R, hR⟩ : ∃ R, R = sameB l l' := ⟨_, rfl⟩
  rw [← hR]
  have HR := Lib.hid hR
  clear hn hn' hI hT hI' hT' hk hk' hR
  by_cases hnn : n = n'
  · subst hnn
    go_enter Tryd.func35, Tryd.ntmps35
    go_wp2_with fail
    go_loopw [7, 8, 9, 17] (fun _ _ _ i wr => ∃ k : Nat, k ≤ n ∧ i = .int .i64 k ∧ Below w.heap.size w wr ∧ Hid ((l.map Ce.el).take k = (l'.map Ce.el).take k)) (fun _ _ _ i _ => n - (intOf i).toNat)
    case atStart => exact ⟨0, Nat.zero_le _, rfl, Below.refl _ _, Lib.hid rfl⟩
    case round =>
      obtain ⟨k, hk, rfl, hB, HE⟩ := hrel
      by_cases hlt : k < n
      · have hkl : k < l.length := by have := HN.out; omega
        have hkl' : k < l'.length := by have := HN'.out; omega
        obtain ⟨p, off, rfl, hp, c0, c1, c2⟩ := (HI.out.below hB).at3 hkl (v0 := .slice l[k].tv l[k].keys.length l[k].tc) (v1 := .int .i64 l[k].many) (v2 := .int .i64 l[k].cents) rfl
        obtain ⟨p', off', rfl, hp', d0, d1, d2⟩ := (HI'.out.below hB).at3 hkl' (v0 := .slice l'[k].tv l'[k].keys.length l'[k].tc) (v1 := .int .i64 l'[k].many) (v2 := .int .i64 l'[k].cents) rfl
        have HB1 := Lib.hid ((hB.alloc hB.size (.cells #[.slice l[k].tv l[k].keys.length l[k].tc, .int .i64 l[k].many, .int .i64 l[k].cents] 44)))
        have HB2 := Lib.hid (HB1.out.alloc HB1.out.size (.cells #[.slice l'[k].tv l'[k].keys.length l'[k].tc, .int .i64 l'[k].many, .int .i64 l'[k].cents] 44))
        have C := Lib.hid (addsCe1_any l[k] l'[k] _ ((HT.out.below HB2.out) l[k] (List.getElem_mem hkl)) ((HT'.out.below HB2.out) l'[k] (List.getElem_mem hkl')) (HK.out _ (List.getElem_mem hkl)) (HK'.out _ (List.getElem_mem hkl')))
        have HNO := Lib.hid (sameB_no hkl hkl')
        have HST := Lib.hid (fun h => sameB_step hkl hkl' h HE.out)
        clear HB1
        generalize decide (l[k].el = l'[k].el) = b at *
        generalize l[k] = x at *
        generalize l'[k] = y at *
        obtain ⟨tv, tc, ks, many, cents⟩ := x
        obtain ⟨tv', tc', ks', many', cents'⟩ := y
        simp only at c0 c1 c2 d0 d1 d2 C HB2
        cases b with
        | false =>
          have HF := Lib.hid (HR.out.trans (HNO.out rfl))
          go_wp2_with fail
          with_reducible refine C.out.mono ?_
          rintro e w1 ⟨rfl, b1⟩
          have HB3 := Lib.hid (HB2.out.trans (b1.mono HB2.out.size))
          go_wp2_with fail
          go_ret
          exact ⟨ret_bool HF.out.symm, HB3.out⟩
        | true =>
          have HF := Lib.hid (HST.out rfl)
          go_wp2_with fail
          with_reducible refine C.out.mono ?_
          rintro e w1 ⟨rfl, b1⟩
          have HB3 := Lib.hid (HB2.out.trans (b1.mono HB2.out.size))
          go_wp2_with fail
          go_roundw
          case rel => exact ⟨k + 1, by omega, by go_num, HB3.out, HF⟩
          case measure => simp [intOf]; omega
      · obtain rfl : k = n := by omega
        have HF := Lib.hid (HR.out.trans (sameB_end HN.out HN'.out HE.out))
        go_wp2_with fail
        go_ret
        exact ⟨ret_bool HF.out.symm, hB⟩
  · have hA : (n == n') = false := by simpa using hnn
    have hB : (n != n') = true := by simpa using hnn
    have hD : ((n : Int) == (n' : Int)) = false := by simp; omega
    have hE : ((n : Int) != (n' : Int)) = true := by simp; omega
    have HF := Lib.hid (HR.out.trans (sameB_len (by rw [HN.out, HN'.out]; exact hnn)))
    go_enter Tryd.func35, Tryd.ntmps35
    go_wp2_with fail
    go_ret
    exact ⟨ret_bool HF.out.symm, Below.refl _ _⟩

theorem SameCells_any (a a' : Option Addr) (l l' : List Ce) (n n' c c' : Nat) (w : World) (hn : l.length = n) (hn' : l'.length = n') (hn1 : n ≤ 1000) (hn2 : n' ≤ 1000) (hI : RAt w a 3 Ce.cells l) (hT : TagsAt Ce.tv Ce.keys w l) (hI' : RAt w a' 3 Ce.cells l') (hT' : TagsAt Ce.tv Ce.keys w l') (hk : ∀ x ∈ l, x.keys.length ≤ 1000) (hk' : ∀ x ∈ l', x.keys.length ≤ 1000) :
    Calls Tryd.prog 10 #[.slice a n c, .slice a' n' c'] w fun e w' => e = .returned (.bool (sameB l l')) ∧ Below w.heap.size w w' := by
  have C := Lib.hid (sameCeF_any a a' l l' n n' c c' w hn hn' hn1 hn2 hI hT hI' hT' hk hk')
  clear hn hn' hn1 hn2 hI hT hI' hT' hk hk'
  generalize sameB l l' = b at *
  go_enter Tryd.func10, Tryd.ntmps10
  go_wp2_with fail
  with_reducible refine C.out.mono ?_
  rintro e w1 ⟨rfl, b1⟩
  go_wp2_with fail
  go_ret
  exact ⟨rfl, b1⟩
end Go.Proofs.YtmhnnbffhciinaaDoor
