/- Cells stored side by side into a row of one's own. -/
import Derived.Test.YtdiioecpponnmaaGreatDoorMem
import Derived.Deep.MidRow
import Derived.Lib.SliceRun
import Derived.Test.YtdiioecpponnmaaGreatDoorMkC
import Derived.WalkSpells
import Derived.Test.YtdiioecpponnmaaGreatDoorCCond
set_option linter.unusedVariables false
namespace Go.Proofs.YtdiioecpponnmaaGreatDoor
open Go.RowKit

/-- vs written over xs from place o on -/
def setLC (xs : List Value) : Nat → List Value → List Value
  | _, [] => xs
  | o, v :: r => setLC (xs.set o v) (o + 1) r
theorem setL_getC : ∀ (vs xs : List Value) (o i : Nat), o + vs.length ≤ xs.length → (setLC xs o vs)[i]? = if i < o then xs[i]? else if i < o + vs.length then vs[i - o]? else xs[i]? := fun vs => by
  induction vs with
  | nil =>
    intro xs o i h
    simp only [setLC, List.length_nil, Nat.add_zero]
    split
    · rfl
    · rfl
  | cons v r ih =>
    intro xs o i h
    simp only [List.length_cons] at h ⊢
    simp only [setLC]
    rw [ih (xs.set o v) (o + 1) i (by rw [List.length_set]; omega)]
    simp only [List.getElem?_set]
    by_cases h1 : i < o
    · rw [if_pos (by omega), if_pos h1, if_neg (by omega)]
    · rw [if_neg h1]
      by_cases h2 : i = o
      · subst h2
        rw [if_pos (by omega), if_pos rfl, if_pos (by omega), if_pos (by omega)]
        simp
      · rw [if_neg (by omega)]
        obtain ⟨k, hk⟩ : ∃ k, i - o = k + 1 := ⟨i - o - 1, by omega⟩
        by_cases h3 : i < o + 1 + r.length
        · rw [if_pos h3, if_pos (by omega), hk, List.getElem?_cons_succ]
          congr 1
          omega
        · rw [if_neg h3, if_neg (by omega : ¬ i < o + (r.length + 1)), if_neg (by omega : ¬ o = i)]
theorem setL_lenC : ∀ (vs xs : List Value) (o : Nat), (setLC xs o vs).length = xs.length := fun vs => by
  induction vs with
  | nil => intros; rfl
  | cons v r ih => intro xs o; simp only [setLC]; rw [ih, List.length_set]
theorem setL_midC (A B C vs : List Value) (h : vs.length = B.length) : setLC (A ++ (B ++ C)) A.length vs = A ++ (vs ++ C) := by
  apply List.ext_getElem?
  intro i
  have eA : ∀ X : List Value, (A ++ X)[i]? = if i < A.length then A[i]? else X[i - A.length]? := fun X => by rw [List.getElem?_append]
  have eB : (B ++ C)[i - A.length]? = if i - A.length < B.length then B[i - A.length]? else C[i - A.length - B.length]? := by rw [List.getElem?_append]
  have eV : (vs ++ C)[i - A.length]? = if i - A.length < vs.length then vs[i - A.length]? else C[i - A.length - vs.length]? := by rw [List.getElem?_append]
  rw [setL_getC _ _ _ _ (by simp; omega), eA, eA, eB, eV]
  by_cases h1 : i < A.length
  · rw [if_pos h1, if_pos h1, if_pos h1]
  · rw [if_neg h1, if_neg h1, if_neg h1]
    by_cases h2 : i < A.length + vs.length
    · rw [if_pos h2, if_pos (by omega)]
    · rw [if_neg h2, if_neg (by omega), if_neg (by omega), h]
theorem setL_takeC (xs vs : List Value) (o : Nat) (h : o + vs.length ≤ xs.length) : (setLC xs o vs).take o = xs.take o := by
  apply List.ext_getElem?
  intro i
  rw [List.getElem?_take, List.getElem?_take]
  split
  · rename_i hi
    rw [setL_getC _ _ _ _ h, if_pos hi]
  · rfl
theorem fm_lenC {α : Type} (f : α → List Value) (K : Nat) : ∀ (l : List α), (∀ x ∈ l, (f x).length = K) → (l.flatMap f).length = l.length * K
  | [], _ => by simp
  | x :: l, h => by
    rw [List.flatMap_cons, List.length_append, fm_lenC f K l (fun y hy => h y (by simp [hy])), h x (by simp), List.length_cons, Nat.add_mul]
    omega
theorem fm_setLC {α : Type} (f : α → List Value) (K : Nat) (l : List α) (i : Nat) (x : α) (hi : i < l.length) (h : ∀ x ∈ l, (f x).length = K) (hx : (f x).length = K) : setLC (l.flatMap f) (i * K) (f x) = (l.set i x).flatMap f := by
  have e0 : l = l.take i ++ (l[i] :: l.drop (i + 1)) := by rw [List.getElem_cons_drop, List.take_append_drop]
  have e1 : l.flatMap f = (l.take i).flatMap f ++ (f l[i] ++ (l.drop (i + 1)).flatMap f) := by
    conv => lhs; rw [e0]
    rw [List.flatMap_append, List.flatMap_cons]
  have e2 : (l.set i x).flatMap f = (l.take i).flatMap f ++ (f x ++ (l.drop (i + 1)).flatMap f) := by
    rw [List.set_eq_take_append_cons_drop, if_pos hi, List.flatMap_append, List.flatMap_cons]
  have e3 : ((l.take i).flatMap f).length = i * K := by
    rw [fm_lenC f K _ (fun y hy => h y (List.mem_of_mem_take hy)), List.length_take, Nat.min_eq_left (by omega)]
  rw [e1, e2, ← e3]
  exact setL_midC _ _ _ _ (by rw [hx, h _ (List.getElem_mem hi)])
theorem fmK_takeC {α : Type} (f : α → List Value) (K : Nat) (l : List α) (m : Nat) (h : ∀ x ∈ l, (f x).length = K) (hm : m ≤ l.length) : (l.flatMap f).take (m * K) = (l.take m).flatMap f := by
  have e3 : ((l.take m).flatMap f).length = m * K := by
    rw [fm_lenC f K _ (fun y hy => h y (List.mem_of_mem_take hy)), List.length_take, Nat.min_eq_left (by omega)]
  have e1 : l.flatMap f = (l.take m).flatMap f ++ (l.drop m).flatMap f := by rw [← List.flatMap_append, List.take_append_drop]
  rw [e1, ← e3, List.take_left']
  rfl

theorem own_setsC {w : World} {base g size cap n : Nat} {e : TypeId} {xs : List Value} (vs : List Value) (o : Nat) (h : w.ownsRow base e size (.slice (some ⟨g, 0, none⟩) n cap) n xs) :
    (w.setCells g o vs).ownsRow base e size (.slice (some ⟨g, 0, none⟩) n cap) n (setLC xs o vs) ∧ w.grownBy (w.setCells g o vs) (some g) := by
  induction vs generalizing w xs o with
  | nil => exact ⟨h, ⟨rfl, rfl, rfl, Nat.le_refl _, fun _ _ _ => rfl⟩⟩
  | cons v r ih =>
    obtain ⟨h1, g1⟩ := h.stored o v
    obtain ⟨h2, g2⟩ := ih (o + 1) h1
    exact ⟨h2, grown_trans g1 g2⟩
theorem own_takeC {w : World} {base g size cap n : Nat} {e : TypeId} {xs : List Value} (m : Nat) (hm : m ≤ n) (h : w.ownsRow base e size (.slice (some ⟨g, 0, none⟩) n cap) n xs) :
    w.ownsRow base e size (.slice (some ⟨g, 0, none⟩) m cap) m (xs.take (m * size)) := by
  have hmul : m * size ≤ n * size := Nat.mul_le_mul_right _ hm
  rcases h.2 with ⟨h', _⟩ | ⟨g', cap', cur, h', hb, hg, hnc, hcm, hcs, htake⟩
  · simp at h'
  · simp only [Value.slice.injEq, Option.some.injEq, Addr.mk.injEq, and_true, true_and] at h'
    obtain ⟨rfl, rfl⟩ := h'
    refine ⟨by rw [List.length_take, h.1]; omega, .inr ⟨g, cap, cur, rfl, hb, hg, by omega, hcm, hcs, ?_⟩⟩
    rw [← htake, List.take_take, Nat.min_eq_left hmul]
theorem own_thereC {w : World} {base g size cap n : Nat} {e : TypeId} {xs : List Value} (h : w.ownsRow base e size (.slice (some ⟨g, 0, none⟩) n cap) n xs) (o k : Nat) (hk : o + k ≤ n * size) : w.there g o k := fun j hj => by
  refine ⟨?_, h.frozenAt _⟩
  rw [h.cellAt _ (by omega), List.getElem?_eq_getElem (by rw [h.1]; omega)]
  rfl

end Go.Proofs.YtdiioecpponnmaaGreatDoor
/- slices.Clone at the lists of a condition (printed by gen_clc.py). -/
set_option linter.unusedVariables false
namespace Go.Proofs.YtdiioecpponnmaaGreatDoor
open Go.RowKit

theorem RAt.flatC {α : Type} {w : World} {ad : Addr} {C : Nat} {f : α → List Value} {l : List α} (h : RAt w (some ad) C f l) (hf : ∀ x ∈ l, (f x).length = C) (hC : 0 < C) :
    ∀ j u, (l.flatMap f)[j]? = some u → w.cell? (ad.add j) = some u := by
  intro j u hu
  have hlen := fm_length C f l hf
  have hj : j < l.length * C := by
    have := (List.getElem?_eq_some_iff.1 hu).1
    omega
  have hjC : j / C < l.length := Nat.div_lt_of_lt_mul (by rw [Nat.mul_comm]; exact hj)
  have hm := Nat.mod_lt j hC
  have he : j / C * C + j % C = j := by rw [Nat.mul_comm]; exact Nat.div_add_mod j C
  have hg := fm_get C f l hf (j / C) (j % C) hjC hm
  rw [he, hu] at hg
  obtain ⟨p, off, ha, -, hc⟩ := h (j / C) hjC
  injection ha with ha
  subst ha
  have := hc (j % C) u hg.symm
  rw [Nat.add_assoc, he] at this
  unfold Addr.add
  split
  · rename_i h0
    subst h0
    exact this
  · exact this
theorem one_Vl (l : List Vl) : ∀ u ∈ l.flatMap Vl.cells, u.oneCell' = true := by
  intro u hu
  obtain ⟨x, -, hx⟩ := List.mem_flatMap.1 hu
  simp only [Vl.cells, List.mem_cons, List.mem_nil_iff, or_false] at hx
  rcases hx with rfl | rfl | rfl <;> rfl
set_option maxHeartbeats 2000000 in
theorem cloneVl_any (a : Option Addr) (l : List Vl) (n c : Nat) (w : World) (hn : l.length = n) (hn1 : n ≤ 1000) (hI : RAt w a 3 Vl.cells l) :
    Calls Tryz.prog 17 #[.slice a n c] w fun e w' => ∃ v', e = .returned v' ∧ w'.ownsRow w.heap.size 47 3 v' n (l.flatMap Vl.cells) ∧ Below w.heap.size w w' := by
  obtain ⟨i0, hi, hz0, hz1, hz2⟩ := info_parts infoValue
  have heq := fun w a n c => Lib.run_eql_slice_nil (P := Tryz.prog) w 26 47 a n c 0 0 Tryz.underlying26
  cases a with
  | none =>
    have hl : l = [] := by
      cases l with
      | nil => rfl
      | cons x l =>
        obtain ⟨p, off, h, -⟩ := hI 0 (by simp)
        cases h
    subst hl
    obtain rfl : n = 0 := hn.symm
    go_enter Tryz.func17, Tryz.ntmps17
    go_wp2
    go_ret
    exact ⟨_, rfl, World.ownsRow_nil _ _ _ _, Below.refl _ _⟩
  | some ad =>
    have hfl := Lib.hid (RAt.flatC (hI.alloc (.cells #[] 47)) (fun x _ => x.len) (by omega))
    have hlen := Lib.hid (fm_length 3 Vl.cells l (fun x _ => x.len))
    rw [hn] at hlen
    have hone := Lib.hid (one_Vl l)
    have hown := World.ownsRow_made (base := w.heap.size) (e := 47) (size := 3) w #[] 0 (Nat.le_refl _) (by unfold maxLen; omega) rfl
    have HB := Lib.hid ((Below.refl w.heap.size w).alloc (Nat.le_refl _) (.cells #[] 47))
    clear hn hI
    go_enter Tryz.func17, Tryz.ntmps17
    go_wp2_with (at_builtin; refine wpList_append_own _ rfl _ _ 26 rfl w.heap.size 47 i0 _ 3 32 Tryz.underlying26 hi hz0 hz1 hz2 rfl (by decide) _ _ _ rfl hown ad n c (l.flatMap Vl.cells) rfl hlen.out hfl.out hone.out ?c3 ?c4 ?c5 ?_)
    case c3 => unfold maxLen; omega
    case c4 => omega
    case c5 => simp
    intro v2 w6 own6 hgrow6 hne6
    have HOW : Hid (w6.ownsRow w.heap.size 47 3 v2 n (l.flatMap Vl.cells)) := Lib.hid (by simpa using own6)
    have HB6 := Lib.hid (HB.out.grown hgrow6 (by simp) (fun k hk => (hown.lt k hk).1))
    clear own6 hgrow6 hne6 hown
    go_wp2_with fail
    go_ret
    exact ⟨_, rfl, HOW.out, HB6.out⟩
theorem one_Wh (l : List Wh) : ∀ u ∈ l.flatMap Wh.cells, u.oneCell' = true := by
  intro u hu
  obtain ⟨x, -, hx⟩ := List.mem_flatMap.1 hu
  simp only [Wh.cells, List.mem_cons, List.mem_nil_iff, or_false] at hx
  rcases hx with rfl | rfl | rfl | rfl | rfl <;> rfl
set_option maxHeartbeats 2000000 in
theorem cloneWh_any (a : Option Addr) (l : List Wh) (n c : Nat) (w : World) (hn : l.length = n) (hn1 : n ≤ 1000) (hI : RAt w a 5 Wh.cells l) :
    Calls Tryz.prog 18 #[.slice a n c] w fun e w' => ∃ v', e = .returned v' ∧ w'.ownsRow w.heap.size 50 5 v' n (l.flatMap Wh.cells) ∧ Below w.heap.size w w' := by
  obtain ⟨i0, hi, hz0, hz1, hz2⟩ := info_parts infoWhere
  have heq := fun w a n c => Lib.run_eql_slice_nil (P := Tryz.prog) w 27 50 a n c 0 0 Tryz.underlying27
  cases a with
  | none =>
    have hl : l = [] := by
      cases l with
      | nil => rfl
      | cons x l =>
        obtain ⟨p, off, h, -⟩ := hI 0 (by simp)
        cases h
    subst hl
    obtain rfl : n = 0 := hn.symm
    go_enter Tryz.func18, Tryz.ntmps18
    go_wp2
    go_ret
    exact ⟨_, rfl, World.ownsRow_nil _ _ _ _, Below.refl _ _⟩
  | some ad =>
    have hfl := Lib.hid (RAt.flatC (hI.alloc (.cells #[] 50)) (fun x _ => x.len) (by omega))
    have hlen := Lib.hid (fm_length 5 Wh.cells l (fun x _ => x.len))
    rw [hn] at hlen
    have hone := Lib.hid (one_Wh l)
    have hown := World.ownsRow_made (base := w.heap.size) (e := 50) (size := 5) w #[] 0 (Nat.le_refl _) (by unfold maxLen; omega) rfl
    have HB := Lib.hid ((Below.refl w.heap.size w).alloc (Nat.le_refl _) (.cells #[] 50))
    clear hn hI
    go_enter Tryz.func18, Tryz.ntmps18
    go_wp2_with (at_builtin; refine wpList_append_own _ rfl _ _ 27 rfl w.heap.size 50 i0 _ 5 64 Tryz.underlying27 hi hz0 hz1 hz2 rfl (by decide) _ _ _ rfl hown ad n c (l.flatMap Wh.cells) rfl hlen.out hfl.out hone.out ?c3 ?c4 ?c5 ?_)
    case c3 => unfold maxLen; omega
    case c4 => omega
    case c5 => simp
    intro v2 w6 own6 hgrow6 hne6
    have HOW : Hid (w6.ownsRow w.heap.size 50 5 v2 n (l.flatMap Wh.cells)) := Lib.hid (by simpa using own6)
    have HB6 := Lib.hid (HB.out.grown hgrow6 (by simp) (fun k hk => (hown.lt k hk).1))
    clear own6 hgrow6 hne6 hown
    go_wp2_with fail
    go_ret
    exact ⟨_, rfl, HOW.out, HB6.out⟩
theorem one_Cn (l : List Cn) : ∀ u ∈ l.flatMap Cn.cells, u.oneCell' = true := by
  intro u hu
  obtain ⟨x, -, hx⟩ := List.mem_flatMap.1 hu
  simp only [Cn.cells, List.mem_cons, List.mem_nil_iff, or_false] at hx
  rcases hx with rfl | rfl | rfl | rfl | rfl | rfl | rfl | rfl | rfl <;> rfl
set_option maxHeartbeats 2000000 in
theorem cloneCn_any (a : Option Addr) (l : List Cn) (n c : Nat) (w : World) (hn : l.length = n) (hn1 : n ≤ 1000) (hI : RAt w a 9 Cn.cells l) :
    Calls Tryz.prog 14 #[.slice a n c] w fun e w' => ∃ v', e = .returned v' ∧ w'.ownsRow w.heap.size 30 9 v' n (l.flatMap Cn.cells) ∧ Below w.heap.size w w' := by
  obtain ⟨i0, hi, hz0, hz1, hz2⟩ := info_parts infoCond
  have heq := fun w a n c => Lib.run_eql_slice_nil (P := Tryz.prog) w 28 30 a n c 0 0 Tryz.underlying28
  cases a with
  | none =>
    have hl : l = [] := by
      cases l with
      | nil => rfl
      | cons x l =>
        obtain ⟨p, off, h, -⟩ := hI 0 (by simp)
        cases h
    subst hl
    obtain rfl : n = 0 := hn.symm
    go_enter Tryz.func14, Tryz.ntmps14
    go_wp2
    go_ret
    exact ⟨_, rfl, World.ownsRow_nil _ _ _ _, Below.refl _ _⟩
  | some ad =>
    have hfl := Lib.hid (RAt.flatC (hI.alloc (.cells #[] 30)) (fun x _ => x.len) (by omega))
    have hlen := Lib.hid (fm_length 9 Cn.cells l (fun x _ => x.len))
    rw [hn] at hlen
    have hone := Lib.hid (one_Cn l)
    have hown := World.ownsRow_made (base := w.heap.size) (e := 30) (size := 9) w #[] 0 (Nat.le_refl _) (by unfold maxLen; omega) rfl
    have HB := Lib.hid ((Below.refl w.heap.size w).alloc (Nat.le_refl _) (.cells #[] 30))
    clear hn hI
    go_enter Tryz.func14, Tryz.ntmps14
    go_wp2_with (at_builtin; refine wpList_append_own _ rfl _ _ 28 rfl w.heap.size 30 i0 _ 9 144 Tryz.underlying28 hi hz0 hz1 hz2 rfl (by decide) _ _ _ rfl hown ad n c (l.flatMap Cn.cells) rfl hlen.out hfl.out hone.out ?c3 ?c4 ?c5 ?_)
    case c3 => unfold maxLen; omega
    case c4 => omega
    case c5 => simp
    intro v2 w6 own6 hgrow6 hne6
    have HOW : Hid (w6.ownsRow w.heap.size 30 9 v2 n (l.flatMap Cn.cells)) := Lib.hid (by simpa using own6)
    have HB6 := Lib.hid (HB.out.grown hgrow6 (by simp) (fun k hk => (hown.lt k hk).1))
    clear own6 hgrow6 hne6 hown
    go_wp2_with fail
    go_ret
    exact ⟨_, rfl, HOW.out, HB6.out⟩
end Go.Proofs.YtdiioecpponnmaaGreatDoor
/- A condition that is being spoiled: its box, the box of the result, and what it keeps far from. -/
set_option linter.unusedVariables false
namespace Go.Proofs.YtdiioecpponnmaaGreatDoor
open Go.RowKit

/-- what the spoiler of a condition leaves: it shares what the condition shared, and no more -/
def GenSp (S : SC) (K : Nat) (w : World) (d0 : Nat) (c0 : Cn) (d M : Nat) (e : Ending) (w' : World) : Prop :=
  ∃ c : Cn, e = .returned (.agg c.cells.toArray) ∧ TAt d w' c ∧ (∀ g, g < w.heap.size → FarT d0 c0 g → FarT d c g) ∧ szN d c ≤ M ∧ w.grownBy w' (some S.g) ∧ Strm w' S K
/-- the lists of two nodes are the same -/
def sameL (a b : Nd) : Prop := a.va = b.va ∧ a.vals = b.vals ∧ a.wa = b.wa ∧ a.whs = b.whs ∧ a.aa = b.aa ∧ a.ac = b.ac
theorem TAt.sc {d : Nat} {w : World} {n n' : Nd} {args : List Cn} (h : TAt d w (.mk n args)) (e : sameL n n') (hok : n'.ok) : TAt d w (.mk n' args) := by
  cases d with
  | zero => exact h.elim
  | succ d =>
    obtain ⟨_, h2, h3, h4, h5, h6⟩ := h
    obtain ⟨e1, e2, e3, e4, e5, e6⟩ := e
    simp only [Cn.nd, Cn.args] at h2 h3 h4 h5 h6
    rw [e6] at h2
    rw [e1, e2] at h3
    rw [e3, e4] at h4
    rw [e5] at h5
    exact ⟨hok, h2, h3, h4, h5, h6⟩
theorem FarT.sc {d g : Nat} {n n' : Nd} {args : List Cn} (h : FarT d (.mk n args) g) (e : sameL n n') : FarT d (.mk n' args) g := by
  cases d with
  | zero => trivial
  | succ d =>
    obtain ⟨h1, h2, h3, h4⟩ := h
    obtain ⟨e1, e2, e3, e4, e5, e6⟩ := e
    simp only [Cn.nd, Cn.args] at h1 h2 h3 h4
    rw [e1, e2] at h1
    rw [e3, e4] at h2
    rw [e5] at h3
    exact ⟨h1, h2, h3, h4⟩
theorem szN_sc {d : Nat} {n n' : Nd} {args : List Cn} : szN d (.mk n' args) = szN d (.mk n args) := by
  cases d <;> rfl
/-- a condition in a variable of its own at q3; the result goes to q4 -/
structure Sb (w : World) (S : SC) (q3 q4 : Nat) (d0 : Nat) (c0 : Cn) (d : Nat) (c : Cn) (K : Nat) (wr : World) : Prop where
  mkk : Mk w S q4 condZ 30 K wr
  bx : OB wr q3 c.cells 30
  lo : w.heap.size ≤ q3
  lt : q3 < q4
  tr : TAt d wr c
  f3 : FarT d c q3
  f4 : FarT d c q4
  fo : ∀ g, g < w.heap.size → FarT d0 c0 g → FarT d c g
  fs : FarT d c S.g
  sl : S.g < w.heap.size
section
variable {w wr w' : World} {S : SC} {q3 q4 d0 d d' K K' M : Nat} {c0 c c' : Cn}
theorem Sb.draw (h : Sb w S q3 q4 d0 c0 d c K wr) (k : wr.grownBy w' (some S.g)) (s : Strm w' S K') : Sb w S q3 q4 d0 c0 d c K' w' := by
  have h1 := h.sl
  have h2 := h.lo
  exact ⟨h.mkk.draw k s, h.bx.grown k (fun e => by have := Option.some.inj e; omega), h.lo, h.lt, h.tr.kept k (fun g e => by obtain rfl := Option.some.inj e; exact h.fs), h.f3, h.f4, h.fo, h.fs, h.sl⟩
theorem Sb.mono (h : Sb w S q3 q4 d0 c0 d c K wr) (hK : K ≤ K') : Sb w S q3 q4 d0 c0 d c K' wr := h.draw ⟨rfl, rfl, rfl, Nat.le_refl _, fun _ _ _ => rfl⟩ (strm_mono h.mkk.st hK)
theorem Sb.alloc (h : Sb w S q3 q4 d0 c0 d c K wr) (o : Obj) : Sb w S q3 q4 d0 c0 d c K (wr.alloc o) := h.draw (World.grownBy_alloc _ _ _) (strm_alloc h.mkk.st _)
theorem Sb.up (h : Sb w S q3 q4 d0 c0 d c K wr) (hd : d ≤ d') : Sb w S q3 q4 d0 c0 d' c K wr :=
  ⟨h.mkk, h.bx, h.lo, h.lt, h.tr.mono hd, FarT.mono hd h.tr h.f3, FarT.mono hd h.tr h.f4, fun g hg hf => FarT.mono hd h.tr (h.fo g hg hf), FarT.mono hd h.tr h.fs, h.sl⟩
theorem Sb.write (h : Sb w S q3 q4 d0 c0 d c K wr) (o : OB w' q3 c'.cells 30) (k : wr.grownBy w' (some q3)) (ht : TAt d' w' c') (f3 : FarT d' c' q3) (f4 : FarT d' c' q4) (fo : ∀ g, g < w.heap.size → FarT d0 c0 g → FarT d' c' g) (fs : FarT d' c' S.g) : Sb w S q3 q4 d0 c0 d' c' K w' := by
  have h1 := h.sl
  have h2 := h.lo
  have h3 := h.lt
  exact ⟨⟨h.mkk.ob.grown k (fun e => by have := Option.some.inj e; omega), strm_own h.mkk.st k (fun b hb => by have := Option.some.inj hb; omega), grown_own h.mkk.gr k (fun b hb => by have := Option.some.inj hb; omega), h.mkk.lo, h.mkk.sg⟩, o, h.lo, h.lt, ht, f3, f4, fo, fs, h.sl⟩
/-- one of its plain parts is changed -/
theorem Sb.scal {n n' : Nd} {args : List Cn} (h : Sb w S q3 q4 d0 c0 d (.mk n args) K wr) (i : Nat) (u : Value) (e : sameL n n') (hok : n'.ok) (hc : (Cn.mk n' args).cells = (Cn.mk n args).cells.set i u) : Sb w S q3 q4 d0 c0 d (.mk n' args) K (wr.setCell ⟨q3, i, none⟩ u) := by
  have k : wr.grownBy (wr.setCell ⟨q3, i, none⟩ u) (some q3) := ⟨rfl, rfl, rfl, by simp [World.setCell], fun j _ hne => Below.heap_setCell wr _ _ j (by rintro rfl; exact hne rfl)⟩
  exact h.write (h.bx.put i u hc) k ((h.tr.kept k (fun g e => by obtain rfl := Option.some.inj e; exact h.f3)).sc e hok) (h.f3.sc e) (h.f4.sc e) (fun g hg hf => (h.fo g hg hf).sc e) (h.fs.sc e)
theorem Sb.gen {w9 : World} (h : Sb w S q3 q4 d0 c0 d c K wr) (k9 : wr.grownBy w9 (some q4)) (o9 : OB w9 q4 c.cells 30) (hK : K ≤ K') (hM : szN d c ≤ M) : GenSp S K' w d0 c0 d M (.returned (.agg c.cells.toArray)) w9 := by
  have hm := h.mkk.write o9 k9
  exact ⟨c, rfl, h.tr.kept k9 (fun g e => by obtain rfl := Option.some.inj e; exact h.f4), h.fo, hM, hm.gr, strm_mono hm.st hK⟩
theorem Sb.new (hT : TAt d w c) (hf : FarT d c S.g) (s : Strm w S K) : Sb w S w.heap.size (w.heap.size + 1) d c d c K ((w.alloc (.cells c.cells.toArray 30)).alloc (.cells condZ.toArray 30)) := by
  have e : (w.alloc (.cells c.cells.toArray 30)).heap.size = w.heap.size + 1 := World.size_alloc _ _
  have hm := Mk.new (strm_alloc s (.cells c.cells.toArray 30)) condZ 30
  rw [e] at hm
  exact ⟨⟨hm.ob, hm.st, grown_trans (World.grownBy_alloc _ _ _) hm.gr, by omega, hm.sg⟩, (OB.new w c.cells 30).alloc _, Nat.le_refl _, Nat.lt_succ_self _, (hT.alloc _).alloc _, hT.newFar (Nat.le_refl _), hT.newFar (by omega), fun g _ h => h, hf, strm_lt s⟩
/-- a new list of values -/
theorem Sb.vals {n : Nd} {args : List Cn} {a : Option Addr} {cap : Nat} {l : List Vl} (h : Sb w S q3 q4 d0 c0 d (.mk n args) K wr) (hR : RAt (wr.setCell ⟨q3, 4, none⟩ (.slice a l.length cap)) a 3 Vl.cells l) (hfar : ∀ p off, a = some ⟨p, off, none⟩ → q4 < p) (hl : l.length ≤ cap ∧ cap ≤ maxLen ∧ l.length ≤ 1000) (ho : ∀ v ∈ l, v.ok) :
    Sb w S q3 q4 d0 c0 d (.mk { n with va := a, vc := cap, vals := l } args) K (wr.setCell ⟨q3, 4, none⟩ (.slice a l.length cap)) := by
  have h1 := h.sl
  have h2 := h.lo
  have h3 := h.lt
  have k : wr.grownBy (wr.setCell ⟨q3, 4, none⟩ (.slice a l.length cap)) (some q3) := ⟨rfl, rfl, rfl, by simp [World.setCell], fun j _ hne => Below.heap_setCell wr _ _ j (by rintro rfl; exact hne rfl)⟩
  have hF : ∀ g, g ≤ q4 → Far a l.length g := fun g hg _ p off e => by have := hfar p off e; omega
  have hT := h.tr.kept k (fun g e => by obtain rfl := Option.some.inj e; exact h.f3)
  have FF : ∀ g, g ≤ q4 → FarT d (.mk n args) g → FarT d (.mk { n with va := a, vc := cap, vals := l } args) g := fun g hg hf => by
    cases d with
    | zero => trivial
    | succ d => exact ⟨hF g hg, hf.2⟩
  refine h.write (h.bx.put 4 _ rfl) k ?_ (FF _ (by omega) h.f3) (FF _ (Nat.le_refl _) h.f4) (fun g hg hf => FF g (by omega) (h.fo g hg hf)) (FF _ (by omega) h.fs)
  cases d with
  | zero => exact hT.elim
  | succ d =>
    obtain ⟨⟨o1, o2, o3, o4, o5, o6, o7, o8, o9, o10⟩, t2, t3, t4, t5, t6⟩ := hT
    exact ⟨⟨o1, o2, o3, o4, hl, o6, o7, o8, ho, o10⟩, t2, hR, t4, t5, t6⟩
/-- a new list of comparisons -/
theorem Sb.whs {n : Nd} {args : List Cn} {a : Option Addr} {cap : Nat} {l : List Wh} (h : Sb w S q3 q4 d0 c0 d (.mk n args) K wr) (hR : RAt (wr.setCell ⟨q3, 5, none⟩ (.slice a l.length cap)) a 5 Wh.cells l) (hfar : ∀ p off, a = some ⟨p, off, none⟩ → q4 < p) (hl : l.length ≤ cap ∧ cap ≤ maxLen ∧ l.length ≤ 1000) (ho : ∀ v ∈ l, v.ok) :
    Sb w S q3 q4 d0 c0 d (.mk { n with wa := a, wc := cap, whs := l } args) K (wr.setCell ⟨q3, 5, none⟩ (.slice a l.length cap)) := by
  have h1 := h.sl
  have h2 := h.lo
  have h3 := h.lt
  have k : wr.grownBy (wr.setCell ⟨q3, 5, none⟩ (.slice a l.length cap)) (some q3) := ⟨rfl, rfl, rfl, by simp [World.setCell], fun j _ hne => Below.heap_setCell wr _ _ j (by rintro rfl; exact hne rfl)⟩
  have hF : ∀ g, g ≤ q4 → Far a l.length g := fun g hg _ p off e => by have := hfar p off e; omega
  have hT := h.tr.kept k (fun g e => by obtain rfl := Option.some.inj e; exact h.f3)
  have FF : ∀ g, g ≤ q4 → FarT d (.mk n args) g → FarT d (.mk { n with wa := a, wc := cap, whs := l } args) g := fun g hg hf => by
    cases d with
    | zero => trivial
    | succ d => exact ⟨hf.1, hF g hg, hf.2.2⟩
  refine h.write (h.bx.put 5 _ rfl) k ?_ (FF _ (by omega) h.f3) (FF _ (Nat.le_refl _) h.f4) (fun g hg hf => FF g (by omega) (h.fo g hg hf)) (FF _ (by omega) h.fs)
  cases d with
  | zero => exact hT.elim
  | succ d =>
    obtain ⟨⟨o1, o2, o3, o4, o5, o6, o7, o8, o9, o10⟩, t2, t3, t4, t5, t6⟩ := hT
    exact ⟨⟨o1, o2, o3, o4, o5, hl, o7, o8, o9, ho⟩, t2, t3, hR, t5, t6⟩
/-- what is not it -/
theorem Sb.wrap {h1 : Nat} (h : Sb w S q3 q4 d0 c0 d c K wr) (o1 : OB wr h1 c.cells 30) (hq : q4 < h1) (o : OB w' q3 (notC c h1).cells 30) (k : wr.grownBy w' (some q3)) : Sb w S q3 q4 d0 c0 (d + 1) (notC c h1) K w' := by
  have e1 := h.sl
  have e2 := h.lo
  have e3 := h.lt
  have FF : ∀ g, g ≤ q4 → FarT d c g → FarT (d + 1) (notC c h1) g := fun g hg hf =>
    ⟨fun h => absurd h (by simp [notC, Cn.nd]), fun h => absurd h (by simp [notC, Cn.nd]), fun _ p off e => by
      have e1 : h1 = p := by simp only [notC, Cn.nd] at e; injection e with e; injection e
      omega, fun y hy => by obtain rfl := List.mem_singleton.1 hy; exact hf⟩
  refine h.write o k ⟨nd_okZ (by unfold i64B; decide), ⟨Nat.le_refl _, (by unfold maxLen; omega : 1 ≤ maxLen), (by decide : 1 ≤ 1000)⟩, RAt.nil _ _ _ _, RAt.nil _ _ _ _, one_cond (o1.grown k (fun e => by have := Option.some.inj e; omega)), fun y hy => ?_⟩ (FF _ (by omega) h.f3) (FF _ (Nat.le_refl _) h.f4) (fun g hg hf => FF g (by omega) (h.fo g hg hf)) (FF _ (by omega) h.fs)
  obtain rfl := List.mem_singleton.1 hy
  exact h.tr.kept k (fun g e => by obtain rfl := Option.some.inj e; exact h.f3)
end
theorem notC_szN (d h : Nat) (x : Cn) : szN (d + 1) (notC x h) = 1 + szN d x := by
  show 1 + ([x].map (szN d)).sum = _
  simp
theorem sum_set_le : ∀ (l : List Nat) (k y : Nat), (l.set k y).sum ≤ l.sum + y
  | [], k, y => by simp
  | x :: r, 0, y => by simp only [List.set_cons_zero, List.sum_cons]; omega
  | x :: r, k + 1, y => by
    have := sum_set_le r k y
    simp only [List.set_cons_succ, List.sum_cons]
    omega
end Go.Proofs.YtdiioecpponnmaaGreatDoor
/- A condition that is being spoiled, and a list of its own that a copy was made of. -/
set_option linter.unusedVariables false
namespace Go.Proofs.YtdiioecpponnmaaGreatDoor
open Go.RowKit

/-- a copy of one of its lists -/
structure SbL {α : Type} (w : World) (S : SC) (q3 q4 : Nat) (d0 : Nat) (c0 : Cn) (d : Nat) (c : Cn) (t : TypeId) (C : Nat) (f : α → List Value) (v : Value) (l : List α) (base K : Nat) (wr : World) : Prop where
  sb : Sb w S q3 q4 d0 c0 d c K wr
  own : wr.ownsRow base t C v l.length (l.flatMap f)
  hb : q4 < base
  far : ∀ g, base ≤ g → FarT d c g
  bs : base ≤ wr.heap.size
section
variable {α : Type} {w wr w' : World} {S : SC} {q3 q4 d0 d d' K K' M base C : Nat} {c0 c c' : Cn} {t : TypeId} {f : α → List Value} {v v2 : Value} {l : List α}
theorem Sb.own_grown {row : Option Nat} (h : Sb w S q3 q4 d0 c0 d c K wr) (k : wr.grownBy w' row) (hr : ∀ b, row = some b → q4 < b ∧ FarT d c b) : Sb w S q3 q4 d0 c0 d c K w' := by
  have h1 := h.sl
  have h2 := h.lo
  have h3 := h.lt
  refine ⟨⟨h.mkk.ob.grown k (fun e => by have := (hr _ e).1; omega), strm_own h.mkk.st k (fun b hb => by have := (hr b hb).1; omega), grown_own h.mkk.gr k (fun b hb => by have := (hr b hb).1; omega), h.mkk.lo, h.mkk.sg⟩, h.bx.grown k (fun e => by have := (hr _ e).1; omega), h.lo, h.lt, h.tr.kept k (fun g e => (hr g e).2), h.f3, h.f4, h.fo, h.fs, h.sl⟩
theorem Sb.clone (h : Sb w S q3 q4 d0 c0 d c K wr) (own : w'.ownsRow wr.heap.size t C v l.length (l.flatMap f)) (b : Below wr.heap.size wr w') : SbL w S q3 q4 d0 c0 d c t C f v l wr.heap.size K w' :=
  ⟨h.draw (grown_of_below b _) (strm_below h.mkk.st b), own, h.mkk.ob.lt, fun g hg => h.tr.newFar hg, b.size⟩
theorem SbL.draw (h : SbL w S q3 q4 d0 c0 d c t C f v l base K wr) (k : wr.grownBy w' (some S.g)) (s : Strm w' S K') : SbL w S q3 q4 d0 c0 d c t C f v l base K' w' := by
  have h1 := h.sb.sl
  have h2 := h.sb.lo
  have h3 := h.sb.lt
  have h4 := h.hb
  refine ⟨h.sb.draw k s, h.own.kept k ?_, h.hb, h.far, Nat.le_trans h.bs k.size⟩
  cases hv : v.ownBlock with
  | none => exact .inl rfl
  | some b => exact .inr (fun e => by have := (h.own.lt b hv).1; have := Option.some.inj e; omega)
theorem SbL.alloc (h : SbL w S q3 q4 d0 c0 d c t C f v l base K wr) (o : Obj) : SbL w S q3 q4 d0 c0 d c t C f v l base K (wr.alloc o) := h.draw (World.grownBy_alloc _ _ _) (strm_alloc h.sb.mkk.st _)
theorem TAt.ok1 {n : Nd} {args : List Cn} (h : TAt d w (.mk n args)) : n.ok := by
  cases d with
  | zero => exact h.elim
  | succ d => exact h.1
theorem SbL.vals {n : Nd} {args : List Cn} {x : Vl} (h : SbL w S q3 q4 d0 c0 d (.mk n args) 47 3 Vl.cells v n.vals base K wr) (hx : x.ok) (hlen : n.vals.length ≤ 100) (own : w'.ownsRow base 47 3 v2 (n.vals.length + 1) (n.vals.flatMap Vl.cells ++ x.cells)) (k : wr.grownBy w' v.ownBlock) :
    ∃ a cap, v2 = .slice a (n.vals.length + 1) cap ∧ w'.cell? ⟨q3, 4, none⟩ = some (.slice n.va n.vals.length n.vc) ∧ w'.frozen? ⟨q3, 4, none⟩ = false ∧ q3 < w'.heap.size ∧ Sb w S q3 q4 d0 c0 d (.mk { n with va := a, vc := cap, vals := n.vals ++ [x] } args) K (w'.setCell ⟨q3, 4, none⟩ (.slice a (n.vals.length + 1) cap)) := by
  have hb := h.hb
  have hl := h.sb.lt
  have h9 := h.sb.own_grown k (fun b e => ⟨by have := (h.own.lt b e).1; omega, h.far b (h.own.lt b e).1⟩)
  have e1 : (n.vals ++ [x]).length = n.vals.length + 1 := by simp
  have own' : w'.ownsRow base 47 3 v2 (n.vals ++ [x]).length ((n.vals ++ [x]).flatMap Vl.cells) := by simpa using own
  obtain ⟨a, cap, e2, hR, h1, h2⟩ := RAt.of_own own' (fun x _ => x.len)
  rw [e1] at e2 h1
  subst e2
  have hpa : ∀ p off, a = some ⟨p, off, none⟩ → base ≤ p := fun p off e => by
    subst e
    rcases own.2 with ⟨e, _⟩ | ⟨g', c', _, e, _⟩
    · cases e
    · injection e with e _ _
      injection e with e
      injection e with e e' _
      subst e e'
      exact (own.lt p rfl).1
  have kk : w'.grownBy (w'.setCell ⟨q3, 4, none⟩ (.slice a (n.vals.length + 1) cap)) (some q3) := ⟨rfl, rfl, rfl, by simp [World.setCell], fun j _ hne => Below.heap_setCell w' _ _ j (by rintro rfl; exact hne rfl)⟩
  refine ⟨a, cap, rfl, h9.bx.cell 4 _ rfl, h9.bx.free 4, h9.bx.lt, ?_⟩
  have r := h9.vals (a := a) (cap := cap) (l := n.vals ++ [x]) (by rw [e1]; exact hR.kept kk (fun g e _ p off e' => by obtain rfl := Option.some.inj e; have := hpa p off e'; omega)) (fun p off e => by have := hpa p off e; omega) ⟨by omega, h2, by omega⟩ (fun y hy => by
    rcases List.mem_append.1 hy with hy | hy
    · exact h9.tr.ok1.2.2.2.2.2.2.2.2.1 y hy
    · obtain rfl := List.mem_singleton.1 hy
      exact hx)
  rw [e1] at r
  exact r
theorem SbL.whs {n : Nd} {args : List Cn} {x : Wh} (h : SbL w S q3 q4 d0 c0 d (.mk n args) 50 5 Wh.cells v n.whs base K wr) (hx : x.ok) (hlen : n.whs.length ≤ 100) (own : w'.ownsRow base 50 5 v2 (n.whs.length + 1) (n.whs.flatMap Wh.cells ++ x.cells)) (k : wr.grownBy w' v.ownBlock) :
    ∃ a cap, v2 = .slice a (n.whs.length + 1) cap ∧ w'.cell? ⟨q3, 5, none⟩ = some (.slice n.wa n.whs.length n.wc) ∧ w'.frozen? ⟨q3, 5, none⟩ = false ∧ q3 < w'.heap.size ∧ Sb w S q3 q4 d0 c0 d (.mk { n with wa := a, wc := cap, whs := n.whs ++ [x] } args) K (w'.setCell ⟨q3, 5, none⟩ (.slice a (n.whs.length + 1) cap)) := by
  have hb := h.hb
  have hl := h.sb.lt
  have h9 := h.sb.own_grown k (fun b e => ⟨by have := (h.own.lt b e).1; omega, h.far b (h.own.lt b e).1⟩)
  have e1 : (n.whs ++ [x]).length = n.whs.length + 1 := by simp
  have own' : w'.ownsRow base 50 5 v2 (n.whs ++ [x]).length ((n.whs ++ [x]).flatMap Wh.cells) := by simpa using own
  obtain ⟨a, cap, e2, hR, h1, h2⟩ := RAt.of_own own' (fun x _ => x.len)
  rw [e1] at e2 h1
  subst e2
  have hpa : ∀ p off, a = some ⟨p, off, none⟩ → base ≤ p := fun p off e => by
    subst e
    rcases own.2 with ⟨e, _⟩ | ⟨g', c', _, e, _⟩
    · cases e
    · injection e with e _ _
      injection e with e
      injection e with e e' _
      subst e e'
      exact (own.lt p rfl).1
  have kk : w'.grownBy (w'.setCell ⟨q3, 5, none⟩ (.slice a (n.whs.length + 1) cap)) (some q3) := ⟨rfl, rfl, rfl, by simp [World.setCell], fun j _ hne => Below.heap_setCell w' _ _ j (by rintro rfl; exact hne rfl)⟩
  refine ⟨a, cap, rfl, h9.bx.cell 5 _ rfl, h9.bx.free 5, h9.bx.lt, ?_⟩
  have r := h9.whs (a := a) (cap := cap) (l := n.whs ++ [x]) (by rw [e1]; exact hR.kept kk (fun g e _ p off e' => by obtain rfl := Option.some.inj e; have := hpa p off e'; omega)) (fun p off e => by have := hpa p off e; omega) ⟨by omega, h2, by omega⟩ (fun y hy => by
    rcases List.mem_append.1 hy with hy | hy
    · exact h9.tr.ok1.2.2.2.2.2.2.2.2.2 y hy
    · obtain rfl := List.mem_singleton.1 hy
      exact hx)
  rw [e1] at r
  exact r
end
theorem own_rat {α : Type} {w : World} {b0 g C cap : Nat} {t : TypeId} {f : α → List Value} {l : List α} (h : w.ownsRow b0 t C (.slice (some ⟨g, 0, none⟩) l.length cap) l.length (l.flatMap f)) (hf : ∀ x ∈ l, (f x).length = C) : RAt w (some ⟨g, 0, none⟩) C f l := by
  obtain ⟨a, c, e, r, -⟩ := RAt.of_own h hf
  injection e with e
  subst e
  exact r
/-- its list of others is a copy -/
structure SbA (w : World) (S : SC) (q3 q4 : Nat) (d0 : Nat) (c0 : Cn) (d : Nat) (n : Nd) (args : List Cn) (base g K : Nat) (wr : World) : Prop where
  sb : Sb w S q3 q4 d0 c0 (d + 1) (.mk n args) K wr
  aa : n.aa = some ⟨g, 0, none⟩
  own : wr.ownsRow base 30 9 (.slice (some ⟨g, 0, none⟩) args.length n.ac) args.length (args.flatMap Cn.cells)
  hb : q4 < base
  far : Far n.va n.vals.length g ∧ Far n.wa n.whs.length g ∧ ∀ y ∈ args, FarT d y g
section
variable {w wr w' : World} {S : SC} {q3 q4 d0 d d' K K' base g : Nat} {c0 x' : Cn} {n : Nd} {args : List Cn} {v : Value}
theorem SbA.draw (h : SbA w S q3 q4 d0 c0 d n args base g K wr) (k : wr.grownBy w' (some S.g)) (s : Strm w' S K') : SbA w S q3 q4 d0 c0 d n args base g K' w' := by
  have h1 := h.sb.sl
  have h2 := h.sb.lo
  have h3 := h.sb.lt
  have h4 := h.hb
  refine ⟨h.sb.draw k s, h.aa, h.own.kept k (.inr (fun e => ?_)), h.hb, h.far⟩
  have := (h.own.lt g rfl).1
  have := Option.some.inj e
  simp only at this
  omega
theorem SbA.alloc (h : SbA w S q3 q4 d0 c0 d n args base g K wr) (o : Obj) : SbA w S q3 q4 d0 c0 d n args base g K (wr.alloc o) := h.draw (World.grownBy_alloc _ _ _) (strm_alloc h.sb.mkk.st _)
theorem SbA.mono (h : SbA w S q3 q4 d0 c0 d n args base g K wr) (hK : K ≤ K') : SbA w S q3 q4 d0 c0 d n args base g K' wr := h.draw ⟨rfl, rfl, rfl, Nat.le_refl _, fun _ _ _ => rfl⟩ (strm_mono h.sb.mkk.st hK)
theorem SbA.drew (h : SbA w S q3 q4 d0 c0 d n args base g K wr) : SbA w S q3 q4 d0 c0 d n args base g K wr.drew := h.draw ⟨rfl, rfl, rfl, Nat.le_refl _, fun _ _ _ => rfl⟩ (show Strm wr.drew S K from h.sb.mkk.st)
theorem SbL.kids (h : SbL w S q3 q4 d0 c0 (d + 1) (.mk n args) 30 9 Cn.cells v args base K wr) (h0 : 0 < args.length) :
    ∃ g cap, v = .slice (some ⟨g, 0, none⟩) args.length cap ∧ wr.cell? ⟨q3, 8, none⟩ = some (.slice n.aa args.length n.ac) ∧ wr.frozen? ⟨q3, 8, none⟩ = false ∧ q3 < wr.heap.size ∧ SbA w S q3 q4 d0 c0 d { n with aa := some ⟨g, 0, none⟩, ac := cap } args base g K (wr.setCell ⟨q3, 8, none⟩ (.slice (some ⟨g, 0, none⟩) args.length cap)) := by
  have hb := h.hb
  have hl := h.sb.lt
  have e1 := h.sb.sl
  have e2 := h.sb.lo
  obtain ⟨a, cap, e, hR, h1, h2⟩ := RAt.of_own h.own (fun x _ => x.len)
  subst e
  obtain ⟨p, off, e, -⟩ := hR 0 h0
  subst e
  have own := h.own
  have h3 : base ≤ p ∧ off = 0 := by
    rcases own.2 with ⟨e, _⟩ | ⟨g', c', _, e, _⟩
    · cases e
    · injection e with e _ _
      injection e with e
      injection e with e e' _
      subst e e'
      exact ⟨(own.lt p rfl).1, rfl⟩
  obtain ⟨h3, rfl⟩ := h3
  have kk : wr.grownBy (wr.setCell ⟨q3, 8, none⟩ (.slice (some ⟨p, 0, none⟩) args.length cap)) (some q3) := ⟨rfl, rfl, rfl, by simp [World.setCell], fun j _ hne => Below.heap_setCell wr _ _ j (by rintro rfl; exact hne rfl)⟩
  have hT := h.sb.tr.kept kk (fun g e => by obtain rfl := Option.some.inj e; exact h.sb.f3)
  obtain ⟨⟨o1, o2, o3, o4, o5, o6, o7, o8, o9, o10⟩, t2, t3, t4, t5, t6⟩ := hT
  have FF : ∀ g, g ≤ q4 → FarT (d + 1) (.mk n args) g → FarT (d + 1) (.mk { n with aa := some ⟨p, 0, none⟩, ac := cap } args) g := fun g hg hf =>
    ⟨hf.1, hf.2.1, fun _ p' off' e => by injection e with e; injection e with e; omega, hf.2.2.2⟩
  have own' := own.kept kk (.inr (fun e => by have := Option.some.inj e; simp only at this; omega))
  refine ⟨p, cap, rfl, h.sb.bx.cell 8 _ rfl, h.sb.bx.free 8, h.sb.bx.lt, ⟨h.sb.write (h.sb.bx.put 8 _ rfl) kk ⟨⟨o1, o2, o3, o4, o5, o6, o7, o8, o9, o10⟩, ⟨h1, h2, t2.2.2⟩, t3, t4, own_rat own' (fun x _ => x.len), t6⟩ (FF _ (by omega) h.sb.f3) (FF _ (Nat.le_refl _) h.sb.f4) (fun g hg hf => FF g (by omega) (h.sb.fo g hg hf)) (FF _ (by omega) h.sb.fs), rfl, own', h.hb, ?_⟩⟩
  have := h.far p h3
  exact ⟨this.1, this.2.1, this.2.2.2⟩
theorem SbA.near {gg : Nat} (h : SbA w S q3 q4 d0 c0 d n args base g K wr) (hg : gg ≤ q4 ∨ gg = g) : gg < wr.heap.size := by
  rcases hg with hg | hg
  · have := h.sb.mkk.ob.lt
    omega
  · have := (h.own.lt g rfl).2
    omega
/-- one of the others is spoiled -/
theorem SbA.set (h : SbA w S q3 q4 d0 c0 d n args base g K wr) (k : Nat) (hk : k < args.length) (hd : d ≤ d') (hT : TAt d' wr x') (hF : ∀ gg, gg ≤ q4 ∨ gg = g → FarT d args[k] gg → FarT d' x' gg) :
    Sb w S q3 q4 d0 c0 (d' + 1) (.mk n (args.set k x')) K (wr.setCells g (9 * k) x'.cells) := by
  have e1 := h.sb.sl
  have e2 := h.sb.lo
  have e3 := h.sb.lt
  have e4 := h.hb
  have e5 := (h.own.lt g rfl).1
  have e6 : g < wr.heap.size := (h.own.lt g rfl).2
  have e7 := h.sb.mkk.ob.lt
  have hmem : args[k] ∈ args := List.getElem_mem hk
  obtain ⟨ow, gr⟩ := own_setsC x'.cells (9 * k) h.own
  rw [Nat.mul_comm 9 k, fm_setLC Cn.cells 9 args k x' hk (fun x _ => x.len) x'.len] at ow
  rw [Nat.mul_comm 9 k] at gr ⊢
  have hb9 := h.sb.bx.grown gr (fun e => by have := Option.some.inj e; omega)
  have hm9 : Mk w S q4 condZ 30 K (wr.setCells g (k * 9) x'.cells) :=
    ⟨h.sb.mkk.ob.grown gr (fun e => by have := Option.some.inj e; omega), strm_own h.sb.mkk.st gr (fun b hb => by have := Option.some.inj hb; omega), grown_own h.sb.mkk.gr gr (fun b hb => by have := Option.some.inj hb; omega), h.sb.mkk.lo, h.sb.mkk.sg⟩
  have FF : ∀ gg, gg ≤ q4 → FarT (d + 1) (.mk n args) gg → FarT (d' + 1) (.mk n (args.set k x')) gg := fun gg hg hf =>
    ⟨hf.1, hf.2.1, by
      have := hf.2.2.1
      simp only [Cn.nd, Cn.args, List.length_set] at this ⊢
      exact this, fun y hy => by
      rcases List.mem_or_eq_of_mem_set hy with hy | rfl
      · exact FarT.mono hd (h.sb.tr.2.2.2.2.2 y hy) (hf.2.2.2 y hy)
      · exact hF gg (.inl hg) (hf.2.2.2 _ hmem)⟩
  have hT0 := h.sb.tr
  obtain ⟨t1, t2, t3, t4, t5, t6⟩ := hT0
  refine ⟨hm9, by simpa [OB, Cn.cells, Cn.nd, Cn.args] using hb9, e2, e3, ⟨t1, ?_, t3.kept gr (fun g' e => by obtain rfl := Option.some.inj e; exact h.far.1), t4.kept gr (fun g' e => by obtain rfl := Option.some.inj e; exact h.far.2.1), ?_, fun y hy => ?_⟩, FF _ (by omega) h.sb.f3, FF _ (by omega) h.sb.f4, fun gg hg hf => FF gg (by omega) (h.sb.fo gg hg hf), FF _ (by omega) h.sb.fs, e1⟩
  · simp only [Cn.nd, Cn.args, List.length_set] at t2 ⊢
    exact t2
  · have hr := own_rat (l := args.set k x') (f := Cn.cells) (by rw [List.length_set]; exact ow) (fun x _ => x.len)
    rw [← h.aa] at hr
    exact hr
  · rcases List.mem_or_eq_of_mem_set hy with hy | rfl
    · exact ((t6 y hy).mono hd).kept gr (fun g' e => by obtain rfl := Option.some.inj e; exact FarT.mono hd (t6 y hy) (h.far.2.2 y hy))
    · exact hT.kept gr (fun g' e => by obtain rfl := Option.some.inj e; exact hF _ (.inr rfl) (h.far.2.2 _ hmem))
end
end Go.Proofs.YtdiioecpponnmaaGreatDoor
