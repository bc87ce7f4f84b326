/- The weight of a letter: measure.weight and the reference weightOf. -/
import Derived.Test.YtgdagknjnidmiaaGreatDoorMeasure
import Derived.StillTailTactics
import Derived.Deep.RegionHeld3
import Derived.Deep.RegionWith
import Derived.Test.YtgdagknjnidmiaaGreatDoorShelf
import Derived.Test.YtgdagknjnidmiaaGreatDoorMem
import Derived.Deep.DeepCutAuto
import Derived.Deep.CutBlock
import Derived.Sort.WalkA
import Derived.Sort.LotA
import Derived.Sort.Lot0
import Derived.Deep.AppendLies
set_option linter.unusedVariables false
namespace Go.Proofs.YtgdagknjnidmiaaGreatDoor
open Go.RowKit

def wgt (how : Int) (p i n : Nat) : Int :=
  if how = 1 ∧ 0 < i ∨ how = 2 ∧ i + 1 < n then 0 else if how = 4 ∧ (i = 0 ∨ i + 1 = n) ∧ 2 < n then 2 else if how = 5 then (i : Int) + 1 else if how = 6 then ((2 ^ (18 - p) : Nat) : Int) else 1
theorem half_step (j : Nat) (hj : j < 18) : (2 ^ (18 - j) : Nat) / 2 = 2 ^ (18 - (j + 1)) := by
  rw [show 18 - j = 18 - (j + 1) + 1 by omega, Nat.pow_succ]
  omega
theorem half_bd (j : Nat) : (2 ^ (18 - j) : Nat) ≤ 262144 := Nat.pow_le_pow_right (by omega) (show 18 - j ≤ 18 by omega)

set_option maxRecDepth 100000 in
set_option maxHeartbeats 2000000 in
theorem weight_any (how : Int) (span age i n : Nat) (w : World) (h1 : 1 ≤ how) (h2 : how ≤ 6) (hs : 1 ≤ span) (hs2 : span ≤ 4321440) (ha : age ≤ span) (hi : i < n) (hn : n ≤ 1000) :
    Calls Tryz.prog 107 #[.int .i64 how, .int .i64 span, .int .i64 age, .int .i64 i, .int .i64 n] w fun e w' => e = .returned (.int .i64 (wgt how (18 * age / span) i n)) ∧ w = w' := by
  have hp : 18 * age / span ≤ 18 := Nat.div_le_of_le_mul (by omega)
  have e1 : (18 * (age : Int)).tdiv (span : Int) = ((18 * age / span : Nat) : Int) := by
    rw [Int.tdiv_eq_ediv_of_nonneg (by omega)]; simp
  have e1' : (18 * (age : Int)) / (span : Int) = ((18 * age / span : Nat) : Int) := by simp
  have hsn : ¬ span = 0 := by omega
  generalize 18 * age / span = p at *
  have hb := half_bd p
  have e2 : ((18 : Int) - (p : Int)).toNat = 18 - p := by omega
  have e3 : IntKind.i64.wrap ((2 : Int) ^ (18 - p)) = ((2 ^ (18 - p) : Nat) : Int) := by
    have : ((2 ^ (18 - p) : Nat) : Int) = (2 : Int) ^ (18 - p) := by simp
    rw [IntKind.wrap_i64, ← this]
    generalize (2 ^ (18 - p) : Nat) = t at *
    omega
  have HW : Hid (∀ x, wgt how p i n = x → wgt how p i n = x) := Lib.hid (fun x h => h)
  rcases (show how = 1 ∨ how = 2 ∨ how = 3 ∨ how = 4 ∨ how = 5 ∨ how = 6 by omega) with rfl | rfl | rfl | rfl | rfl | rfl
  all_goals
    go_enter Tryz.func107, Tryz.ntmps107
    go_wp2
    all_goals
      go_ret
      refine ⟨ret_int ?_, rfl⟩
      unfold wgt
      repeat' split
      all_goals first | rfl | omega

set_option maxRecDepth 100000 in
set_option maxHeartbeats 2000000 in
theorem weightOf_any (how : Int) (span age i n : Nat) (w : World) (h1 : 1 ≤ how) (h2 : how ≤ 6) (hs : 1 ≤ span) (hs2 : span ≤ 4321440) (ha : age ≤ span) (hi : i < n) (hn : n ≤ 1000) :
    Calls Tryz.prog 80 #[.int .i64 how, .int .i64 span, .int .i64 i, .int .i64 n, .int .i64 age] w fun e w' => e = .returned (.int .i64 (wgt how (18 * age / span) i n)) ∧ w = w' := by
  have hp : 18 * age / span ≤ 18 := Nat.div_le_of_le_mul (by omega)
  have e1 : (18 * (age : Int)).tdiv (span : Int) = ((18 * age / span : Nat) : Int) := by
    rw [Int.tdiv_eq_ediv_of_nonneg (by omega)]; simp
  have e1' : (18 * (age : Int)) / (span : Int) = ((18 * age / span : Nat) : Int) := by simp
  have hsn : ¬ span = 0 := by omega
  generalize 18 * age / span = p at *
  by_cases h6 : how = 6
  · subst h6
    have HW := Lib.hid (show wgt 6 p i n = ((2 ^ (18 - p) : Nat) : Int) by simp [wgt])
    go_enter Tryz.func80, Tryz.ntmps80
    go_wp2
    go_loop [11, 58] (fun x j => ∃ k : Nat, k ≤ p ∧ j = .int .i64 k ∧ x = .int .i64 ((2 ^ (18 - k) : Nat) : Int)) (fun _ j => p - (intOf j).toNat)
    case atStart => exact ⟨0, Nat.zero_le _, rfl, rfl⟩
    case round =>
      obtain ⟨k, hk, rfl, rfl⟩ := hrel
      have hb := half_bd k
      by_cases hlt : k < p
      · have HS := Lib.hid (half_step k (by omega))
        generalize (2 ^ (18 - k) : Nat) = x at *
        go_wp2
        go_round
        case rel => exact ⟨k + 1, by omega, by go_num, by rw [← HS.out]; go_num⟩
        case measure => simp [intOf]; omega
      · obtain rfl : k = p := by omega
        generalize (2 ^ (18 - k) : Nat) = x at *
        go_wp2
        go_ret
        exact ⟨ret_int HW.out.symm, rfl⟩
  · rcases (show how = 1 ∨ how = 2 ∨ how = 3 ∨ how = 4 ∨ how = 5 by omega) with rfl | rfl | rfl | rfl | rfl
    all_goals
      clear h6
      go_enter Tryz.func80, Tryz.ntmps80
      go_wp2
      all_goals
        go_ret
        refine ⟨ret_int ?_, rfl⟩
        unfold wgt
        repeat' split
        all_goals first | rfl | omega | (simp_all; omega) | (simp_all; done)
end Go.Proofs.YtgdagknjnidmiaaGreatDoor
/- Contracts of measure.Reduce, measure.isRight and of the references that answer to them. -/
namespace Go.Proofs.YtgdagknjnidmiaaGreatDoor
open Go.RowKit

/-- what Reduce answers: a fraction, an error -/
def redV (n d : Int) : Int × Int × Int :=
  if n < -4611686018427387904 ∨ 4611686018427387904 < n ∨ d < -4611686018427387904 ∨ 4611686018427387904 < d then (0, 0, 1)
  else if d = 0 then (0, 0, 8) else (Frac.redN n d, Frac.redD n d, 0)
def Red (n d : Int) (w : World) (e : Ending) (w' : World) : Prop :=
  e = .returned (.tuple #[.agg #[.int .i64 (redV n d).1, .int .i64 (redV n d).2.1], .int .i64 (redV n d).2.2]) ∧ Below w.heap.size w w'

set_option maxHeartbeats 400000 in
theorem Reduce_any (n d : Int) (w : World) : Calls Tryz.prog 47 #[.int .i64 n, .int .i64 d] w (Red n d w) := by
  by_cases h1 : n < -4611686018427387904 ∨ 4611686018427387904 < n
  · have H := Lib.hid (show redV n d = (0, 0, 1) by unfold redV; rw [if_pos (by omega)])
    unfold Red
    rw [H.out]
    clear H
    go_enter Tryz.func47, Tryz.ntmps47
    go_wp2_with fail
    with_reducible refine (within_no _ _ _ _ h1).mono ?_
    rintro e w' ⟨rfl, rfl⟩
    clear h1
    go_wp2_with fail
    go_returns
    exact ⟨rfl, by go_grown⟩
  · by_cases h2 : d < -4611686018427387904 ∨ 4611686018427387904 < d
    · have H := Lib.hid (show redV n d = (0, 0, 1) by unfold redV; rw [if_pos (by omega)])
      unfold Red
      rw [H.out]
      clear H
      go_enter Tryz.func47, Tryz.ntmps47
      go_wp2_with fail
      with_reducible refine (within_yes _ _ _ _ (by omega) (by omega)).mono ?_
      rintro e w' ⟨rfl, rfl⟩
      go_wp2_with fail
      with_reducible refine (within_no _ _ _ _ h2).mono ?_
      rintro e w' ⟨rfl, rfl⟩
      clear h1 h2
      go_wp2_with fail
      go_returns
      exact ⟨rfl, by go_grown⟩
    · have h3 : -4611686018427387904 ≤ n := by omega
      have h4 : n ≤ 4611686018427387904 := by omega
      have h5 : -4611686018427387904 ≤ d := by omega
      have h6 : d ≤ 4611686018427387904 := by omega
      by_cases h7 : d = 0
      · have H := Lib.hid (show redV n d = (0, 0, 8) by unfold redV; rw [if_neg (by omega), if_pos h7])
        unfold Red
        rw [H.out]
        clear H
        subst h7
        clear h1 h2
        go_enter Tryz.func47, Tryz.ntmps47
        go_wp2_with fail
        with_reducible refine (within_yes _ _ _ _ (by omega) (by omega)).mono ?_
        rintro e w' ⟨rfl, rfl⟩
        go_wp2_with fail
        with_reducible refine (within_yes _ _ _ _ (by omega) (by omega)).mono ?_
        rintro e w' ⟨rfl, rfl⟩
        go_wp2_with fail
        go_returns
        exact ⟨rfl, by go_grown⟩
      · have H := Lib.hid (show redV n d = (Frac.redN n d, Frac.redD n d, 0) by unfold redV; rw [if_neg (by omega), if_neg h7])
        unfold Red
        rw [H.out]
        clear H
        clear h1 h2
        have hd : (d == 0) = false := by simp [h7]
        go_enter Tryz.func47, Tryz.ntmps47
        go_wp2_with fail
        with_reducible refine (within_yes _ _ _ _ (by omega) (by omega)).mono ?_
        rintro e w' ⟨rfl, rfl⟩
        go_wp2_with fail
        with_reducible refine (within_yes _ _ _ _ (by omega) (by omega)).mono ?_
        rintro e w' ⟨rfl, rfl⟩
        go_wp2_with fail
        with_reducible refine (reduce_any _ _ _ h7 h5 h6 h3 h4).mono ?_
        rintro e w' ⟨rfl, hb⟩
        unfold fr
        have hc0 := hb.cell (p := ⟨w.heap.size, 0, none⟩) (by simp)
        have hc1 := hb.cell (p := ⟨w.heap.size, 1, none⟩) (by simp)
        have hf0 := hb.frozen (p := ⟨w.heap.size, 0, none⟩) (by simp)
        have hf1 := hb.frozen (p := ⟨w.heap.size, 1, none⟩) (by simp)
        simp at hc0 hc1 hf0 hf1
        have hz := hb.size
        simp at hz
        go_wp2_with fail
        refine bodyPost_ret (v := .tuple #[.agg #[.int .i64 (Frac.redN n d), .int .i64 (Frac.redD n d)], .int .i64 0]) (by simp [results, Tryz.results47, go_sem, hc0, hc1]) rfl ⟨rfl, ?_⟩
        exact ((((Below.refl _ _).alloc (Nat.le_refl _) _).trans (hb.mono (by simp))).setCell (Nat.le_refl _) _).setCell (Nat.le_refl _) _
end Go.Proofs.YtgdagknjnidmiaaGreatDoor
/- The contract of measure.isRight. -/
namespace Go.Proofs.YtgdagknjnidmiaaGreatDoor
open Go.RowKit

theorem quiet_left {P : Program} {f : FuncId} {args : Array Value} {w : World} {n : Nat} {v : Value}
    (h : Calls P f args (w.drewN n) fun e w' => e = .returned v ∧ w.drewN n = w') : Calls P f args (w.drewN n) fun e w'' => e = .returned v ∧ ∃ m, w'' = w.drewN m :=
  h.mono fun _ _ ⟨he, hm⟩ => ⟨he, n, hm.symm⟩

end Go.Proofs.YtgdagknjnidmiaaGreatDoor
/- Contracts of cmp.Or at ints, measure.products, measure.compare, measure.Compare. -/
set_option linter.unusedVariables false
namespace Go.Proofs.YtgdagknjnidmiaaGreatDoor
open Go.RowKit

/-- the first number that is not 0 -/
def orF : List Int → Int
  | [] => 0
  | x :: l => if x = 0 then orF l else x
theorem orF_drop (zs : List Int) (k : Nat) (hk : k < zs.length) : orF (zs.drop k) = if zs[k] = 0 then orF (zs.drop (k + 1)) else zs[k] := by
  rw [List.drop_eq_getElem_cons hk]; rfl

theorem or_any (h : Nat) (zs : List Int) (n c : Nat) (w : World) (hn : zs.length = n) (hn1 : n ≤ 1000)
    (hb : w.heap[h]? = some (.cells (zs.map (Value.int .i64)).toArray 3 (0, 0))) :
    Calls Tryz.prog 111 #[.slice (some ⟨h, 0, none⟩) n c] w fun e w' => e = .returned (.int .i64 (orF zs)) ∧ w = w' := by
  have HB := Lib.hid hb
  have HN := Lib.hid hn
  clear hb hn
  go_enter Tryz.func111, Tryz.ntmps111
  go_wp2
  go_loop [2, 5, 8] (fun r v i => r = .int .i64 0 ∧ ∃ k : Nat, k ≤ n ∧ i = .int .i64 k ∧ Hid (orF (zs.drop k) = orF zs)) (fun _ _ i => n - (intOf i).toNat)
  case atStart => exact ⟨rfl, 0, Nat.zero_le _, rfl, rfl⟩
  case round =>
    obtain ⟨rfl, k, hk, rfl, HO⟩ := hrel
    by_cases hlt : k < n
    · have hkz : k < zs.length := by have := HN.out; omega
      have hcell : w.cell? ⟨h, k, none⟩ = some (.int .i64 zs[k]) := by simp [World.cell?, HB.out, hkz]
      have HD := Lib.hid (orF_drop zs k hkz)
      generalize hz : zs[k] = z at *
      clear hz
      by_cases h0 : z = 0
      · subst h0
        go_wp2
        go_round
        case rel => exact ⟨rfl, k + 1, by omega, by go_num, by show orF (zs.drop (k + 1)) = _; rw [← HO.out, HD.out, if_pos rfl]⟩
        case measure => simp [intOf]; omega
      · have e1 : (z != 0) = true := by simp [h0]
        go_wp2
        go_ret
        exact ⟨ret_int (by rw [← HO.out, HD.out, if_neg h0]), rfl⟩
    · go_wp2
      go_ret
      refine ⟨ret_int ?_, rfl⟩
      rw [← HO.out, List.drop_of_length_le (by have := HN.out; omega)]
      rfl

theorem cmp_split (X Y : Nat) : orF [Frac.cmpI ((X / 18446744073709551616 : Nat) : Int) ((Y / 18446744073709551616 : Nat) : Int), Frac.cmpI ((X % 18446744073709551616 : Nat) : Int) ((Y % 18446744073709551616 : Nat) : Int)] = Frac.cmpI X Y := by
  simp only [orF]
  rcases Frac.cmpI_cases ((X / 18446744073709551616 : Nat) : Int) ((Y / 18446744073709551616 : Nat) : Int) with ⟨h1, k1⟩ | ⟨h1, k1⟩ | ⟨h1, k1⟩ <;>
  rcases Frac.cmpI_cases ((X % 18446744073709551616 : Nat) : Int) ((Y % 18446744073709551616 : Nat) : Int) with ⟨h2, k2⟩ | ⟨h2, k2⟩ | ⟨h2, k2⟩ <;>
  rw [k1, k2] <;> simp <;> first | (rw [Frac.cmpI_lt (by omega)]) | (rw [Frac.cmpI_gt (by omega)]) | (rw [Frac.cmpI_eq (by omega)])

theorem right_parts {n d : Int} (h : Frac.rightB n d = true) : -4611686018427387904 ≤ n ∧ n ≤ 4611686018427387904 ∧ 1 ≤ d ∧ d ≤ 4611686018427387904 := by
  unfold Frac.rightB at h
  have := of_decide_eq_true h
  omega
/-- what Compare answers -/
def cmpV (a b c d : Int) : Int × Int := if Frac.rightB a b = true ∧ Frac.rightB c d = true then (Frac.cmpF a b c d, 0) else (0, 3)
end Go.Proofs.YtgdagknjnidmiaaGreatDoor
/- Slices of ints that are read: what is told of them, and what keeps it. -/
set_option linter.unusedVariables false
namespace Go.Proofs.YtgdagknjnidmiaaGreatDoor
open Go.RowKit

/-- the slice at a reads as the numbers zs -/
def IntsAt (w : World) (a : Option Addr) (zs : List Int) : Prop :=
  ∀ j (hj : j < zs.length), ∃ h off, a = some ⟨h, off, none⟩ ∧ h < w.heap.size ∧ w.cell? ⟨h, off + j, none⟩ = some (.int .i64 zs[j])

theorem IntsAt.nil (w : World) (a : Option Addr) : IntsAt w a [] := fun j hj => by simp at hj
theorem IntsAt.below {w w' : World} {a : Option Addr} {zs : List Int} (h : IntsAt w a zs) (hb : Below w.heap.size w w') : IntsAt w' a zs := by
  intro j hj
  obtain ⟨p, off, h1, h2, h3⟩ := h j hj
  exact ⟨p, off, h1, Nat.lt_of_lt_of_le h2 hb.size, (hb.cell (p := ⟨p, off + j, none⟩) h2).trans h3⟩
theorem IntsAt.grown {w w' : World} {a : Option Addr} {zs : List Int} {g : Nat} (h : IntsAt w a zs) (hb : w.grownBy w' (some g)) (hg : ∀ p off, a = some ⟨p, off, none⟩ → p ≠ g) : IntsAt w' a zs := by
  intro j hj
  obtain ⟨p, off, h1, h2, h3⟩ := h j hj
  exact ⟨p, off, h1, Nat.lt_of_lt_of_le h2 hb.size, hb.cell h3 (by have := hg p off h1; simpa using this)⟩
theorem IntsAt.alloc {w : World} {a : Option Addr} {zs : List Int} (h : IntsAt w a zs) (o : Obj) : IntsAt (w.alloc o) a zs := h.below ((Below.refl _ _).alloc (Nat.le_refl _) o)
theorem IntsAt.drewN {w : World} {a : Option Addr} {zs : List Int} (h : IntsAt w a zs) (n : Nat) : IntsAt (w.drewN n) a zs := h
theorem IntsAt.block {w : World} {p : Nat} {zs : List Int} {t : TypeId} (h : w.heap[p]? = some (.cells (zs.map (Value.int .i64)).toArray t (0, 0))) : IntsAt w (some ⟨p, 0, none⟩) zs := by
  intro j hj
  refine ⟨p, 0, rfl, ?_, by simp [World.cell?, h, hj]⟩
  rcases Nat.lt_or_ge p w.heap.size with h' | h'
  · exact h'
  · rw [Array.getElem?_eq_none h'] at h; cases h
/-- what one round of a loop over the slice is told -/
theorem IntsAt.at_ {w : World} {a : Option Addr} {zs : List Int} (h : IntsAt w a zs) {k : Nat} (hk : k < zs.length) :
    ∃ p off, a = some ⟨p, off, none⟩ ∧ p < w.heap.size ∧ w.cell? ⟨p, off + k, none⟩ = some (.int .i64 zs[k]) := h k hk
theorem IntsAt.of_own {w : World} {base : Nat} {t : TypeId} {a : Option Addr} {n c : Nat} {zs : List Int} (h : w.ownsRow base t 1 (.slice a n c) n (zs.map (Value.int .i64))) : IntsAt w a zs := by
  intro j hj
  have hl : zs.length = n := by simpa using h.1
  obtain ⟨g, cap, hv, _, hlt⟩ := h.form (by omega)
  have hA : a = some ⟨g, 0, none⟩ := by injection hv
  subst hA
  obtain rfl : c = cap := by injection hv
  exact ⟨g, 0, rfl, hlt, by rw [Nat.zero_add]; exact (h.cellAt j (by omega)).trans (by simp [hj])⟩
theorem IntsAt.take {w : World} {a : Option Addr} {zs : List Int} (h : IntsAt w a zs) (n : Nat) : IntsAt w a (zs.take n) := by
  intro j hj
  have hj' : j < zs.length := by simp at hj; omega
  obtain ⟨p, off, h1, h2, h3⟩ := h j hj'
  exact ⟨p, off, h1, h2, by rw [h3]; simp⟩

theorem take_snoc_int (l : List Int) (k : Nat) (h : k < l.length) : l.take (k + 1) = l.take k ++ [l[k]] := by
  rw [List.take_succ_eq_append_getElem h]
theorem sum_snoc (l : List Int) (k : Nat) (h : k < l.length) : (l.take (k + 1)).sum = (l.take k).sum + l[k] := by
  rw [take_snoc_int l k h, List.sum_append]; simp

theorem sum_bd (l : List Int) (M : Int) (h : ∀ z ∈ l, 0 ≤ z ∧ z ≤ M) : 0 ≤ l.sum ∧ l.sum ≤ M * l.length := by
  induction l with
  | nil => simp
  | cons x l ih =>
    obtain ⟨h1, h2⟩ := h x (by simp)
    obtain ⟨h3, h4⟩ := ih (fun z hz => h z (by simp [hz]))
    simp only [List.sum_cons, List.length_cons]
    have : M * ((l.length + 1 : Nat) : Int) = M * l.length + M := by rw [Int.natCast_add, Int.mul_add]; simp
    omega
end Go.Proofs.YtgdagknjnidmiaaGreatDoor
/- The contract of the reference's sum of ints: handref1.total. -/
set_option linter.unusedVariables false
namespace Go.Proofs.YtgdagknjnidmiaaGreatDoor
open Go.RowKit

theorem total_any (a : Option Addr) (zs : List Int) (n c : Nat) (w : World) (hn : zs.length = n) (hn1 : n ≤ 1000000) (hr : IntsAt w a zs) (hb : ∀ z ∈ zs, 0 ≤ z ∧ z ≤ 1000000000000) :
    Calls Tryz.prog 82 #[.slice a n c] w fun e w' => e = .returned (.int .i64 zs.sum) ∧ w = w' := by
  have HB := Lib.hid hb
  have HN := Lib.hid hn
  have HR := Lib.hid hr
  clear hb hn hr
  go_enter Tryz.func82, Tryz.ntmps82
  go_wp2
  go_loop [3, 5, 8] (fun s _ i => ∃ k : Nat, k ≤ n ∧ i = .int .i64 k ∧ s = .int .i64 (zs.take k).sum) (fun _ _ i => n - (intOf i).toNat)
  case atStart => exact ⟨0, Nat.zero_le _, rfl, rfl⟩
  case round =>
    obtain ⟨k, hk, rfl, rfl⟩ := hrel
    obtain ⟨s1, s2⟩ := sum_bd (zs.take k) 1000000000000 (fun z hz => HB.out z (List.mem_of_mem_take hz))
    have s3 : 1000000000000 * ((zs.take k).length : Int) ≤ 1000000000000000000 := by
      have : (zs.take k).length ≤ k := List.length_take_le _ _
      omega
    by_cases hlt : k < n
    · have hkz : k < zs.length := by have := HN.out; omega
      obtain ⟨p, off, rfl, hp, hcell⟩ := HR.out.at_ hkz
      obtain ⟨z1, z2⟩ := HB.out zs[k] (List.getElem_mem hkz)
      have HS := Lib.hid (sum_snoc zs k hkz)
      generalize hz : zs[k] = z at *
      clear hz
      generalize (zs.take k).sum = s at *
      generalize ((zs.take k).length : Int) = l at *
      go_wp2
      go_round
      case rel => exact ⟨k + 1, by omega, by go_num, by rw [HS.out]⟩
      case measure => simp [intOf]; omega
    · go_wp2
      go_ret
      exact ⟨ret_int (by rw [List.take_of_length_le (by have := HN.out; omega)]), rfl⟩
end Go.Proofs.YtgdagknjnidmiaaGreatDoor
/- Slices of ints that are naturals. -/
set_option linter.unusedVariables false
namespace Go.Proofs.YtgdagknjnidmiaaGreatDoor
open Go.RowKit

def natsAt (w : World) (a : Option Addr) (ws : List Nat) : Prop := IntsAt w a (ws.map fun (x : Nat) => (x : Int))
theorem natsAt.at_ {w : World} {a : Option Addr} {ws : List Nat} (h : natsAt w a ws) {k : Nat} (hk : k < ws.length) :
    ∃ p off, a = some ⟨p, off, none⟩ ∧ p < w.heap.size ∧ w.cell? ⟨p, off + k, none⟩ = some (.int .i64 (ws[k] : Int)) := by
  obtain ⟨p, off, h1, h2, h3⟩ := h k (by simpa using hk)
  exact ⟨p, off, h1, h2, by simpa using h3⟩
theorem sum_take_le (ws : List Nat) (k : Nat) : (ws.take k).sum ≤ ws.sum := by
  have h := congrArg List.sum (List.take_append_drop k ws)
  rw [List.sum_append] at h
  omega
theorem sum_take_succ (ws : List Nat) (k : Nat) (hk : k < ws.length) : (ws.take (k + 1)).sum = (ws.take k).sum + ws[k] := by
  rw [List.take_succ_eq_append_getElem hk, List.sum_append]; simp
theorem elem_le_sum (ws : List Nat) (k : Nat) (hk : k < ws.length) : ws[k] ≤ ws.sum := by
  have h1 := sum_take_succ ws k hk
  have h2 := sum_take_le ws (k + 1)
  omega
theorem sum_cast (ws : List Nat) : (ws.map fun (x : Nat) => (x : Int)).sum = ((ws.sum : Nat) : Int) := by
  induction ws with
  | nil => rfl
  | cons x l ih => simp only [List.map_cons, List.sum_cons, ih]; omega
theorem total_nats (a : Option Addr) (ws : List Nat) (n c : Nat) (w : World) (hn : ws.length = n) (hn1 : n ≤ 1000000) (hr : natsAt w a ws) (hb : ∀ x ∈ ws, x ≤ 1000000000000) :
    Calls Tryz.prog 82 #[.slice a n c] w fun e w' => e = .returned (.int .i64 (ws.sum : Nat)) ∧ w = w' := by
  have h := total_any a (ws.map fun (x : Nat) => (x : Int)) n c w (by simpa using hn) hn1 hr (fun z hz => by
    obtain ⟨x, hx, rfl⟩ := List.mem_map.1 hz
    have := hb x hx
    omega)
  rw [sum_cast] at h
  exact h
end Go.Proofs.YtgdagknjnidmiaaGreatDoor
/- A row of cells that lies whole in one block and may be written; make of such a row. -/
set_option linter.unusedVariables false
namespace Go.Proofs.YtgdagknjnidmiaaGreatDoor
open Go.RowKit

/-- block g holds the values f 0, .., f (n - 1), and none of them is frozen -/
structure RowG (w : World) (g n : Nat) (f : Nat → Value) : Prop where
  lt : g < w.heap.size
  cell : ∀ j, j < n → w.cell? ⟨g, j, none⟩ = some (f j)
  free : ∀ j, j < n → w.frozen? ⟨g, j, none⟩ = false

section
variable {w w' : World} {g n : Nat} {f f' : Nat → Value}
theorem RowG.congr (h : RowG w g n f) (hf : ∀ j, j < n → f j = f' j) : RowG w g n f' :=
  ⟨h.lt, fun j hj => by rw [← hf j hj]; exact h.cell j hj, h.free⟩
theorem RowG.below (h : RowG w g n f) (hb : Below w.heap.size w w') : RowG w' g n f :=
  ⟨Nat.lt_of_lt_of_le h.lt hb.size, fun j hj => (hb.cell (p := ⟨g, j, none⟩) h.lt).trans (h.cell j hj), fun j hj => (hb.frozen (p := ⟨g, j, none⟩) h.lt).trans (h.free j hj)⟩
theorem RowG.alloc (h : RowG w g n f) (o : Obj) : RowG (w.alloc o) g n f := h.below ((Below.refl _ _).alloc (Nat.le_refl _) o)
theorem RowG.drewN (h : RowG w g n f) (k : Nat) : RowG (w.drewN k) g n f := ⟨h.lt, h.cell, h.free⟩
theorem RowG.drew (h : RowG w g n f) : RowG w.drew g n f := ⟨h.lt, h.cell, h.free⟩
theorem RowG.grown {row : Option Nat} (h : RowG w g n f) (hg : w.grownBy w' row) (hne : some g ≠ row) : RowG w' g n f :=
  ⟨Nat.lt_of_lt_of_le h.lt hg.size, fun j hj => (World.cell?_of_block (hg.block g h.lt hne)).trans (h.cell j hj), fun j hj => (World.frozen?_of_block (hg.block g h.lt hne)).trans (h.free j hj)⟩
theorem RowG.far (h : RowG w g n f) {p : Addr} (hp : g ≠ p.block) (u : Value) : RowG (w.setCell p u) g n f :=
  ⟨by simpa [World.setCell] using h.lt, fun j hj => (World.cell?_of_block (a := ⟨g, j, none⟩) (Below.heap_setCell w p u g hp)).trans (h.cell j hj),
    fun j hj => (World.frozen?_of_block (a := ⟨g, j, none⟩) (Below.heap_setCell w p u g hp)).trans (h.free j hj)⟩
theorem RowG.set (h : RowG w g n f) (k : Nat) (hk : k < n) (v : Value) : RowG (w.setCell ⟨g, k, none⟩ v) g n (fun j => if j = k then v else f j) := by
  refine ⟨by simpa [World.setCell] using h.lt, fun j hj => ?_, fun j hj => ?_⟩
  · by_cases e : j = k
    · subst e
      rw [if_pos rfl]
      exact World.cell?_setCell_same _ _ _ (h.cell j hj)
    · rw [if_neg e]
      exact (World.cell?_setCell_other w _ _ _ (by intro h'; injection h' with _ h2; exact e h2.symm)).trans (h.cell j hj)
  · have : (w.setCell ⟨g, k, none⟩ v).frozen? ⟨g, j, none⟩ = w.frozen? ⟨g, j, none⟩ := by simp
    rw [this]; exact h.free j hj
theorem RowG.of_own {base : Nat} {t : TypeId} {cap : Nat} {l : List Value} (h : w.ownsRow base t 1 (.slice (some ⟨g, 0, none⟩) n cap) n l) : RowG w g n (fun j => l.getD j undef) := by
  have hl : l.length = n := by simpa using h.1
  refine ⟨(h.lt g (by simp [Value.ownBlock])).2, fun j hj => ?_, fun j _ => h.frozenAt j⟩
  exact (h.cellAt j (by omega)).trans (by simp [hl, hj])
theorem RowG.ints (h : RowG w g n f) {zs : List Int} (hl : zs.length = n) (hz : ∀ j (hj : j < zs.length), f j = .int .i64 zs[j]) : IntsAt w (some ⟨g, 0, none⟩) zs := by
  intro j hj
  refine ⟨g, 0, rfl, h.lt, ?_⟩
  rw [← hz j hj, Nat.zero_add]
  exact h.cell j (by omega)
end

theorem madeCells_toList (z : Value) (hz : z.cells = #[z]) (n : Nat) (j : Nat) (hj : j < n) : (madeCells z.cells (n * 1)).toList.getD j undef = z := by
  rw [hz]
  simp [madeCells, hj, Nat.mod_one]

/-- make of n elements of one cell -/
theorem wpList_make_row {P : Program} (w : World) {ops : Array Oper} {rest : List Oper} {o : Oper} {a : Act} {Q : Exit → Act → World → Prop}
    (hg : o.guard = none) (l c : Operand) (t : TypeId) (hop : o.op = Op.makeSlice t l c)
    (e : TypeId) (i : TypeInfo) (z : Value) (h1 : P.underlying t = some (.slice e)) (h2 : P.info? e = some i) (h3 : i.zero = some z) (h4 : i.size = 1) (hzc : z.cells = #[z])
    (n : Nat) (hl : a.eval l = .int .i64 (n : Int)) (hc : a.eval c = .int .i64 (n : Int)) (b2 : i.bytes * n ≤ 281474976710656) (b3 : n ≤ maxLen)
    (hK : ∀ w', RowG w' w.heap.size n (fun _ => z) → w.grownBy w' none → w'.heap.size = w.heap.size + 1 → wpList P ops Q rest (a.put o.dst (.slice (some ⟨w.heap.size, 0, none⟩) n n)) w') :
    wpList P ops Q (o :: rest) a w := by
  refine wpList_plain hg fun K hK' => ?_
  obtain ⟨w', hrun, r1, r2⟩ := run_make_full (P := P) w w.heap.size t e i z 1 h1 h2 h3 h4 .i64 .i64 n b2 b3 (Nat.le_refl _)
  have hrun2 := run_make (P := P) w t e i z h1 h2 h3 .i64 .i64 n n (by omega) (Int.le_refl _) (by have h : ((i.bytes * n : Nat) : Int) ≤ 281474976710656 := by omega
                                                                                                  rwa [Int.natCast_mul] at h) (by unfold maxLen at b3; omega)
  rw [hrun] at hrun2
  have hw : w' = w.alloc (.cells (madeCells z.cells ((n : Int).toNat * i.size)) e) := by injection hrun2
  unfold Oper.wp
  simp [execOp, hop, hl, hc, hrun, Result.andThen]
  refine hK' _ _ (hK w' ((RowG.of_own r1).congr fun j hj => madeCells_toList z hzc n j hj) r2 ?_)
  rw [hw]
  simp
end Go.Proofs.YtgdagknjnidmiaaGreatDoor
/- The arithmetic of dividing 128 bits by 64, a half at a time. -/
set_option linter.unusedVariables false
namespace Go.Proofs.YtgdagknjnidmiaaGreatDoor.Divs

theorem split (y1 y0 q : Nat) : (y1 * 4294967296 + y0) * q = q * y1 * 4294967296 + q * y0 := by
  rw [Nat.add_mul, Nat.mul_right_comm, Nat.mul_comm y1 q, Nat.mul_comm y0 q]

/-- a digit, and what is left; the numbers of 128 bits -/
def dq (u u1 y : Nat) : Nat := (u * 4294967296 + u1) / y
def dr (u u1 y : Nat) : Nat := (u * 4294967296 + u1) % y
def nq (hi lo y : Nat) : Nat := (hi * 18446744073709551616 + lo) / y
def nr (hi lo y : Nat) : Nat := (hi * 18446744073709551616 + lo) % y
/-- what holds of a digit that is tried: q and what is left by it -/
structure Trial (u u1 y1 y0 q r : Nat) : Prop where
  eq : q * y1 + r = u
  up : (u * 4294967296 + u1) / (y1 * 4294967296 + y0) ≤ q
  lt : r < 4294967296
  le : q ≤ 4294967297

theorem start (u u1 y1 y0 : Nat) (h1 : 2147483648 ≤ y1) (h2 : y1 < 4294967296) (h3 : y0 < 4294967296) (h4 : u1 < 4294967296) (hu : u < y1 * 4294967296 + y0) :
    Trial u u1 y1 y0 (u / y1) (u % y1) := by
  refine ⟨Nat.div_add_mod' u y1, ?_, Nat.lt_trans (Nat.mod_lt _ (by omega)) h2, ?_⟩
  · rw [Nat.le_div_iff_mul_le (by omega)]
    have h := Nat.div_mul_le_self (u * 4294967296 + u1) (y1 * 4294967296 + y0)
    generalize (u * 4294967296 + u1) / (y1 * 4294967296 + y0) = Q at *
    have e := split y1 y0 Q
    rw [Nat.mul_comm] at h
    generalize Q * y1 = p at *
    generalize Q * y0 = m at *
    omega
  · have : u / y1 < 4294967298 := by
      rw [Nat.div_lt_iff_lt_mul (by omega)]
      omega
    omega

theorem low (u u1 y1 y0 q r : Nat) (h : Trial u u1 y1 y0 q r) (h0 : 0 < y1) (ht : 4294967296 ≤ q ∨ 4294967296 * r + u1 < q * y0) (hu : u < y1 * 4294967296 + y0) (h4 : u1 < 4294967296) :
    (u * 4294967296 + u1) / (y1 * 4294967296 + y0) + 1 ≤ q := by
  rcases ht with ht | ht
  · have : (u * 4294967296 + u1) / (y1 * 4294967296 + y0) < 4294967296 := by
      refine Nat.div_lt_of_lt_mul ?_
      omega
    omega
  · refine Nat.div_lt_of_lt_mul ?_
    have e := split y1 y0 q
    have := h.eq
    generalize q * y1 = p at *
    generalize q * y0 = m at *
    omega

theorem step (u u1 y1 y0 q r : Nat) (h : Trial u u1 y1 y0 q r) (h0 : 0 < y1) (ht : 4294967296 ≤ q ∨ 4294967296 * r + u1 < q * y0) (hu : u < y1 * 4294967296 + y0) (h4 : u1 < 4294967296) (hr : r + y1 < 4294967296) :
    1 ≤ q ∧ Trial u u1 y1 y0 (q - 1) (r + y1) := by
  have hl := low u u1 y1 y0 q r h h0 ht hu h4
  have hl0 : 1 ≤ q := Nat.le_trans (Nat.succ_le_succ (Nat.zero_le _)) hl
  have hl1 : (u * 4294967296 + u1) / (y1 * 4294967296 + y0) ≤ q - 1 := Nat.le_sub_of_add_le hl
  refine ⟨hl0, ?_, hl1, hr, by have := h.le; omega⟩
  have := h.eq
  obtain ⟨k, rfl⟩ : ∃ k, q = k + 1 := ⟨q - 1, by omega⟩
  simp only [Nat.add_sub_cancel]
  rw [Nat.add_mul] at this
  omega

theorem stop (u u1 y1 y0 q r : Nat) (h : Trial u u1 y1 y0 q r) (h0 : 0 < y1) (ht : q * y0 ≤ 4294967296 * r + u1) :
    q = dq u u1 (y1 * 4294967296 + y0) := by
  unfold dq
  refine Nat.le_antisymm ?_ h.up
  rw [Nat.le_div_iff_mul_le (by omega), Nat.mul_comm]
  have e := split y1 y0 q
  have := h.eq
  generalize q * y1 = p at *
  generalize q * y0 = m at *
  omega

theorem brk (u u1 y1 y0 q r : Nat) (h : Trial u u1 y1 y0 q r) (h0 : 0 < y1) (h3 : y0 < 4294967296) (ht : 4294967296 ≤ q ∨ 4294967296 * r + u1 < q * y0) (hu : u < y1 * 4294967296 + y0) (h4 : u1 < 4294967296) (hr : 4294967296 ≤ r + y1) :
    1 ≤ q ∧ q - 1 = dq u u1 (y1 * 4294967296 + y0) := by
  unfold dq
  have hl := low u u1 y1 y0 q r h h0 ht hu h4
  have hl0 : 1 ≤ q := Nat.le_trans (Nat.succ_le_succ (Nat.zero_le _)) hl
  have hl1 : (u * 4294967296 + u1) / (y1 * 4294967296 + y0) ≤ q - 1 := Nat.le_sub_of_add_le hl
  refine ⟨hl0, Nat.le_antisymm ?_ hl1⟩
  rw [Nat.le_div_iff_mul_le (by omega), Nat.mul_comm]
  have := h.eq
  have hq := h.le
  obtain ⟨k, rfl⟩ : ∃ k, q = k + 1 := ⟨q - 1, by omega⟩
  simp only [Nat.add_sub_cancel]
  have e := split y1 y0 k
  rw [Nat.add_mul] at this
  have hm : k * y0 ≤ 4294967296 * 4294967295 := Nat.mul_le_mul (by omega) (by omega)
  generalize k * y1 = p at *
  generalize k * y0 = m at *
  omega

theorem digit_lt (u u1 Y : Nat) (h : u < Y) (h1 : u1 < 4294967296) : dq u u1 Y < 4294967296 := by
  refine Nat.div_lt_of_lt_mul ?_
  omega
theorem left_lt (u u1 Y : Nat) (h : 0 < Y) : dr u u1 Y < Y := Nat.mod_lt _ h
/-- the digit and what is left -/
theorem rest (u u1 y : Nat) (hy : y < 18446744073709551616) (h0 : 0 < y) :
    ((u : Int) * 4294967296 + u1 - (dq u u1 y : Int) * (y : Int)) % 18446744073709551616 = (dr u u1 y : Int) := by
  unfold dq dr
  have h := Nat.div_add_mod' (u * 4294967296 + u1) y
  have hl := Nat.mod_lt (u * 4294967296 + u1) h0
  have e : ((((u * 4294967296 + u1) / y : Nat) : Int) * (y : Int)) = (((u * 4294967296 + u1) / y * y : Nat) : Int) := (Int.natCast_mul _ _).symm
  rw [e]
  generalize (u * 4294967296 + u1) / y * y = p at *
  omega

/-- two digits, and what is left, of the numbers as they were -/
theorem whole (hi lo y s : Nat) (hlo : lo < 18446744073709551616) (hy : 0 < y) (un u1 u0 : Nat) (he : un * 18446744073709551616 + (u1 * 4294967296 + u0) = (hi * 18446744073709551616 + lo) * 2 ^ s)
    (h0 : u0 < 4294967296) :
    dq un u1 (y * 2 ^ s) * 4294967296 + dq (dr un u1 (y * 2 ^ s)) u0 (y * 2 ^ s) = nq hi lo y ∧
    dr (dr un u1 (y * 2 ^ s)) u0 (y * 2 ^ s) / 2 ^ s = nr hi lo y := by
  unfold dq dr nq nr
  have hs : 0 < 2 ^ s := Nat.two_pow_pos s
  have hY : 0 < y * 2 ^ s := Nat.mul_pos hy hs
  have h1 := Nat.div_add_mod' (un * 4294967296 + u1) (y * 2 ^ s)
  have e1 : (hi * 18446744073709551616 + lo) / y = ((hi * 18446744073709551616 + lo) * 2 ^ s) / (y * 2 ^ s) := (Nat.mul_div_mul_right _ _ hs).symm
  have e2 : ((hi * 18446744073709551616 + lo) * 2 ^ s) % (y * 2 ^ s) = (hi * 18446744073709551616 + lo) % y * 2 ^ s := Nat.mul_mod_mul_right _ _ _
  have e3 : (hi * 18446744073709551616 + lo) * 2 ^ s = (un * 4294967296 + u1) % (y * 2 ^ s) * 4294967296 + u0 + ((un * 4294967296 + u1) / (y * 2 ^ s) * 4294967296) * (y * 2 ^ s) := by
    rw [← he, Nat.mul_right_comm]
    generalize (un * 4294967296 + u1) / (y * 2 ^ s) * (y * 2 ^ s) = p at *
    omega
  rw [e3] at e2
  rw [Nat.add_mul_mod_self_right] at e2
  constructor
  · rw [e1, e3, Nat.add_mul_div_right _ _ hY, Nat.add_comm]
  · rw [e2, Nat.mul_div_cancel _ hs]
end Go.Proofs.YtgdagknjnidmiaaGreatDoor.Divs
/- The contract of math/bits.Div64. -/
set_option linter.unusedVariables false
namespace Go.Proofs.YtgdagknjnidmiaaGreatDoor
open Go.RowKit

theorem low_two (lo y : Nat) (h : lo < 18446744073709551616) : Value.tuple #[.int .u64 (IntKind.u64.wrap ((lo : Int) / (y : Int))), .int .u64 ((lo : Int) % (y : Int))] = .tuple #[.int .u64 ((lo / y : Nat) : Int), .int .u64 ((lo % y : Nat) : Int)] := by
  have h1 : lo / y ≤ lo := Nat.div_le_self _ _
  rw [← Int.natCast_ediv, ← Int.natCast_emod, Mul64.wrapN _ (by omega)]
theorem div64_low (lo y : Nat) (w : World) (hlo : lo < 18446744073709551616) (hy : y < 18446744073709551616) (h0 : 0 < y) :
    Calls Tryz.prog 84 #[.int .u64 0, .int .u64 lo, .int .u64 y] w fun e w' => e = .returned (.tuple #[.int .u64 ((lo / y : Nat) : Int), .int .u64 ((lo % y : Nat) : Int)]) ∧ ∃ k, w' = w.drewN k := by
  have hy0 : ((y : Int) == 0) = false := by simp; omega
  have hy1 : ¬ ((y : Int) ≤ 0) := by omega
  go_enter Tryz.func84, Tryz.ntmps84
  go_wp2_with fail
  go_quiet (fail)
  go_wp2
  go_ret2
  exact ⟨congrArg Ending.returned (low_two lo y hlo), _, rfl⟩

theorem bitLen_aux : ∀ (f x : Nat), 0 < x → x < 2 ^ f → 2 ^ (Lib.bitLenAux f x) ≤ 2 * x ∧ x < 2 ^ (Lib.bitLenAux f x) ∧ Lib.bitLenAux f x ≤ f ∧ 1 ≤ Lib.bitLenAux f x
  | 0, x, h0, h => by simp at h; omega
  | f + 1, x, h0, h => by
    simp only [Lib.bitLenAux]
    rw [if_neg (by omega)]
    by_cases h1 : x / 2 = 0
    · obtain rfl : x = 1 := by omega
      have : Lib.bitLenAux f (1 / 2) = 0 := by cases f <;> simp [Lib.bitLenAux]
      rw [this]
      simp
    · obtain ⟨a, b, c, d⟩ := bitLen_aux f (x / 2) (by omega) (by rw [Nat.pow_succ] at h; omega)
      rw [Nat.pow_add]
      omega
theorem bitLen_le (x : Nat) (h : 0 < x) (hx : x < 18446744073709551616) : ∃ s : Nat, s ≤ 63 ∧ 64 - (Lib.bitLen x : Int) = s ∧ 9223372036854775808 ≤ x * 2 ^ s ∧ x * 2 ^ s < 18446744073709551616 := by
  obtain ⟨a, b, c, d⟩ := bitLen_aux 64 x h hx
  have e : Lib.bitLen x = Lib.bitLenAux 64 x := rfl
  rw [← e] at a b c d
  generalize Lib.bitLen x = n at *
  refine ⟨64 - n, by omega, by omega, ?_, ?_⟩
  · have hp : (2 : Nat) ^ n * 2 ^ (64 - n) = 18446744073709551616 := by rw [← Nat.pow_add, show n + (64 - n) = 64 by omega]
    have := Nat.mul_le_mul_right (2 ^ (64 - n)) a
    rw [hp, Nat.mul_assoc] at this
    omega
  · have hp : (2 : Nat) ^ n * 2 ^ (64 - n) = 18446744073709551616 := by rw [← Nat.pow_add, show n + (64 - n) = 64 by omega]
    rw [← hp]
    exact Nat.mul_lt_mul_of_pos_right b (Nat.two_pow_pos _)

theorem wrap_nat (y s : Nat) (h : y * 2 ^ s < 18446744073709551616) : IntKind.u64.wrap ((y : Int) * 2 ^ s) = ((y * 2 ^ s : Nat) : Int) := by
  have e : ((y * 2 ^ s : Nat) : Int) = (y : Int) * 2 ^ s := by simp
  rw [IntKind.wrap_u64, ← e]
  omega
theorem halves (Y : Nat) : ∃ a b : Nat, Y = a * 4294967296 + b ∧ b < 4294967296 ∧ a = Y / 4294967296 := ⟨Y / 4294967296, Y % 4294967296, by omega, by omega, rfl⟩
theorem first_digit (u y1 : Nat) (hu : u < 18446744073709551616) : Value.int .u64 (IntKind.u64.wrap ((u : Int) / (y1 : Int))) = .int .u64 ((u / y1 : Nat) : Int) := by
  have h : u / y1 ≤ u := Nat.div_le_self _ _
  rw [← Int.natCast_ediv, Mul64.wrapN _ (by omega)]
theorem first_left (u y1 : Nat) (hu : u < 18446744073709551616) (h0 : 0 < y1) :
    Value.int .u64 (IntKind.u64.wrap ((u : Int) - IntKind.u64.wrap (IntKind.u64.wrap ((u : Int) / (y1 : Int)) * (y1 : Int)))) = .int .u64 ((u % y1 : Nat) : Int) := by
  have h : u / y1 ≤ u := Nat.div_le_self _ _
  have h2 := Nat.div_add_mod' u y1
  rw [← Int.natCast_ediv, Mul64.wrapN _ (by omega), Mul64.mulN]
  generalize u / y1 * y1 = p at *
  rw [Mul64.wrapN p (by omega), IntKind.wrap_u64]
  congr 1
  omega
theorem out_two (p p0 v0 s a b : Nat) (hp : p < 4294967296) (hp0 : p0 < 4294967296) (h : p * 4294967296 + p0 = a ∧ v0 / 2 ^ s = b) :
    Value.tuple #[.int .u64 ((p : Int) * 4294967296 + (p0 : Int)), .int .u64 ((v0 : Int) / 2 ^ s)] = .tuple #[.int .u64 (a : Int), .int .u64 (b : Int)] := by
  have e1 : (p : Int) * 4294967296 + (p0 : Int) = (a : Int) := by omega
  have e2 : ((v0 / 2 ^ s : Nat) : Int) = (v0 : Int) / 2 ^ s := by simp
  rw [e1, ← e2, h.2]
/-- the two words, moved by s bits -/
theorem shifted (hi lo y s : Nat) (hs : s ≤ 63) (hlo : lo < 18446744073709551616) (h1 : hi < y) (h2 : y * 2 ^ s < 18446744073709551616) :
    ∃ u L : Nat, bits .or .u64 (IntKind.u64.wrap ((hi : Int) * 2 ^ s)) ((lo : Int) / 2 ^ (64 - s)) = (u : Int) ∧ IntKind.u64.wrap ((lo : Int) * 2 ^ s) = (L : Int) ∧ L < 18446744073709551616 ∧
      u * 18446744073709551616 + L = (hi * 18446744073709551616 + lo) * 2 ^ s ∧ u < y * 2 ^ s := by
  have hp : (2 : Nat) ^ s * 2 ^ (64 - s) = 18446744073709551616 := by rw [← Nat.pow_add, show s + (64 - s) = 64 by omega]
  have hp0 : 0 < 2 ^ s := Nat.two_pow_pos s
  have hp1 : 0 < 2 ^ (64 - s) := Nat.two_pow_pos _
  have hd : lo / 2 ^ (64 - s) < 2 ^ s := by rw [Nat.div_lt_iff_lt_mul hp1, hp]; exact hlo
  have hm : (hi + 1) * 2 ^ s ≤ y * 2 ^ s := Nat.mul_le_mul_right _ h1
  rw [Nat.add_mul, Nat.one_mul] at hm
  refine ⟨hi * 2 ^ s + lo / 2 ^ (64 - s), lo * 2 ^ s % 18446744073709551616, ?_, ?_, Nat.mod_lt _ (by omega), ?_, by omega⟩
  · rw [wrap_nat hi s (by omega)]
    have e : (lo : Int) / 2 ^ (64 - s) = ((lo / 2 ^ (64 - s) : Nat) : Int) := by simp
    rw [e, bits_or_u64_nat _ _ (by omega) (by omega), Nat.mul_comm hi, Nat.two_pow_add_eq_or_of_lt hd]
  · have e : ((lo * 2 ^ s : Nat) : Int) = (lo : Int) * 2 ^ s := by simp
    rw [IntKind.wrap_u64, ← e]
    omega
  · have e : lo * 2 ^ s / 18446744073709551616 = lo / 2 ^ (64 - s) := by rw [← hp, Nat.mul_comm lo, Nat.mul_div_mul_left _ _ hp0]
    have := Nat.div_add_mod' (lo * 2 ^ s) 18446744073709551616
    rw [e] at this
    rw [Nat.add_mul, Nat.add_mul, Nat.mul_right_comm hi, Nat.add_assoc, this]

theorem lead_any (x : Nat) (w : World) (h : 0 < x) (hx : x < 18446744073709551616) :
    Calls Tryz.prog 114 #[.int .u64 x] w fun e w' => (∃ s : Nat, s ≤ 63 ∧ 9223372036854775808 ≤ x * 2 ^ s ∧ x * 2 ^ s < 18446744073709551616 ∧ e = .returned (.int .i64 s)) ∧ w = w' := by
  refine (Tryz.bits_LeadingZeros64 x w (by omega) (by omega)).mono ?_
  rintro e w' ⟨rfl, rfl⟩
  obtain ⟨s, h1, h2, h3, h4⟩ := bitLen_le x h hx
  refine ⟨⟨s, h1, h3, h4, ?_⟩, rfl⟩
  rw [Int.toNat_natCast, h2]

set_option maxRecDepth 100000 in
set_option maxHeartbeats 4000000 in
theorem div64_any (hi lo y : Nat) (w : World) (hlo : lo < 18446744073709551616) (hy : y < 18446744073709551616) (h0 : 0 < hi) (h1 : hi < y) :
    Calls Tryz.prog 84 #[.int .u64 hi, .int .u64 lo, .int .u64 y] w fun e w' => e = .returned (.tuple #[.int .u64 (Divs.nq hi lo y : Int), .int .u64 (Divs.nr hi lo y : Int)]) ∧ w = w' := by
  have hy0 : ((y : Int) == 0) = false := by simp; omega
  have hh0 : ((hi : Int) == 0) = false := by simp; omega
  have hy1 : ¬ ((y : Int) ≤ hi) := by omega
  go_enter Tryz.func84, Tryz.ntmps84
  go_wp2_with fail
  with_reducible refine (lead_any y _ (by omega) hy).mono ?_
  rintro e w' ⟨⟨s, hs, s1, s2, rfl⟩, rfl⟩
  have e1 : IntKind.u64.wrap ((y : Int) * 2 ^ s) = ((y * 2 ^ s : Nat) : Int) := wrap_nat y s s2
  obtain ⟨u, L, eu, eL, hL, hN, hu⟩ := shifted hi lo y s hs hlo h1 s2
  have HN := Lib.hid hN
  clear hN
  generalize hYe : y * 2 ^ s = Y at *
  have HY := Lib.hid hYe
  clear hYe
  obtain ⟨y1, y0, q1, q2, q3⟩ := halves Y
  obtain ⟨u1, u0, l1, l2, l3⟩ := halves L
  obtain ⟨Y1, hY1⟩ : ∃ z : Int, z = y1 := ⟨_, rfl⟩
  obtain ⟨Y0, hY0⟩ : ∃ z : Int, z = y0 := ⟨_, rfl⟩
  obtain ⟨U1, hU1⟩ : ∃ z : Int, z = u1 := ⟨_, rfl⟩
  obtain ⟨U0, hU0⟩ : ∃ z : Int, z = u0 := ⟨_, rfl⟩
  have e2 : bits .and .u64 (Y : Int) 4294967295 = Y0 := (Mul64.maskN Y s2).trans (by omega)
  have e3 : (Y : Int) / 4294967296 = Y1 := by omega
  have e3' : ¬ Y1 = 0 := by omega
  have e5 : bits .and .u64 (L : Int) 4294967295 = U0 := (Mul64.maskN L hL).trans (by omega)
  have e6 : (L : Int) / 4294967296 = U1 := by omega
  have b1 : 2147483648 ≤ y1 ∧ y1 < 4294967296 := by omega
  have b2 : u1 < 4294967296 := by omega
  have c1 : 2147483648 ≤ Y1 ∧ Y1 < 4294967296 := by omega
  have c2 : 0 ≤ Y0 ∧ Y0 < 4294967296 := by omega
  have c3 : 0 ≤ U1 ∧ U1 < 4294967296 := by omega
  have c4 : 0 ≤ U0 ∧ U0 < 4294967296 := by omega
  have HQ := Lib.hid q1
  have HL := Lib.hid l1
  have HC := Lib.hid (And.intro hY1 (And.intro hY0 (And.intro hU1 hU0)))
  have HA1 := Lib.hid (show Value.int .u64 (IntKind.u64.wrap ((u : Int) / Y1)) = .int .u64 ((u / y1 : Nat) : Int) by rw [hY1]; exact first_digit u y1 (by omega))
  have HB1 := Lib.hid (show Value.int .u64 (IntKind.u64.wrap ((u : Int) - IntKind.u64.wrap (IntKind.u64.wrap ((u : Int) / Y1) * Y1))) = .int .u64 ((u % y1 : Nat) : Int) by rw [hY1]; exact first_left u y1 (by omega) (by omega))
  clear q1 q3 l1 l3 hY1 hY0 hU1 hU0
  go_upto_block 0 with fail
  go_cut [15, 16] (fun x _ wx => x = .int .u64 (Divs.dq u u1 Y : Int) ∧ w = wx)
  case first =>
    go_wp2_with fail
    go_loop [15, 16] (fun x z => ∃ a b : Nat, Divs.Trial u u1 y1 y0 a b ∧ x = .int .u64 a ∧ z = .int .u64 b) (fun x _ => (intOf x).toNat)
    case atStart => exact ⟨_, _, Divs.start u u1 y1 y0 (by omega) (by omega) (by omega) (by omega) (by have := HQ.out; omega), HA1.out, HB1.out⟩
    case round =>
      obtain ⟨a, b, hT, rfl, rfl⟩ := hrel
      have hlt := hT.lt
      have hle := hT.le
      by_cases ha : 4294967296 ≤ a
      · have S1 := Lib.hid (fun h => Divs.step u u1 y1 y0 a b hT (by omega) (.inl ha) (by have := HQ.out; omega) (by omega) h)
        have S2 := Lib.hid (fun h => Divs.brk u u1 y1 y0 a b hT (by omega) (by omega) (.inl ha) (by have := HQ.out; omega) (by omega) h)
        generalize hA : (a : Int) = A
        generalize hB : (b : Int) = B
        have hA1 : 0 ≤ A ∧ A ≤ 4294967297 := by omega
        have hB1 : 0 ≤ B ∧ B < 4294967296 := by omega
        have HA := Lib.hid hA
        have HB := Lib.hid hB
        have hA2 : 4294967296 ≤ A := by omega
        clear hT hA hB ha hle hlt
        go_wp2
        · go_meet
          have hA := HA.out
          have hB := HB.out
          have hC := HC.out
          have := S2.out (by omega)
          exact ⟨by rw [HQ.out, ← this.2]; exact congrArg (Value.int .u64) (by omega), rfl⟩
        · have hA := HA.out
          have hB := HB.out
          have hC := HC.out
          have := S1.out (by omega)
          go_round
          case rel => exact ⟨a - 1, b + y1, this.2, congrArg (Value.int .u64) (by omega), congrArg (Value.int .u64) (by omega)⟩
          case measure => simp [intOf]; omega
      · have hmm : a * y0 ≤ 4294967295 * 4294967295 := Nat.mul_le_mul (by omega) (by omega)
        have ea : IntKind.u64.wrap ((a : Int) * Y0) = ((a * y0 : Nat) : Int) := by
          rw [HC.out.2.1, Mul64.mulN]; exact Mul64.wrapN _ (by omega)
        generalize hv : ((a * y0 : Nat) : Int) = m at ea
        by_cases ht : 4294967296 * b + u1 < a * y0
        · have S1 := Lib.hid (fun h => Divs.step u u1 y1 y0 a b hT (by omega) (.inr ht) (by have := HQ.out; omega) (by omega) h)
          have S2 := Lib.hid (fun h => Divs.brk u u1 y1 y0 a b hT (by omega) (by omega) (.inr ht) (by have := HQ.out; omega) (by omega) h)
          have hl1 : 1 ≤ a := by
            rcases Nat.eq_zero_or_pos a with h | h
            · subst h; simp at ht
            · exact h
          generalize hA : (a : Int) = A
          generalize hB : (b : Int) = B
          have hA1 : 0 ≤ A ∧ A ≤ 4294967297 := by omega
          have hB1 : 0 ≤ B ∧ B < 4294967296 := by omega
          have HA := Lib.hid hA
          have HB := Lib.hid hB
          have hA2 : 1 ≤ A ∧ A < 4294967296 := by omega
          have hm : 4294967296 * B + U1 < m := by have := HC.out; omega
          rw [hA] at ea
          clear hT hA hB ha hle hlt hl1 ht hmm hv
          go_wp2
          · go_meet
            have hA := HA.out
            have hB := HB.out
            have hC := HC.out
            have := S2.out (by omega)
            exact ⟨by rw [HQ.out, ← this.2]; exact congrArg (Value.int .u64) (by omega), rfl⟩
          · have hA := HA.out
            have hB := HB.out
            have hC := HC.out
            have := S1.out (by omega)
            go_round
            case rel => exact ⟨a - 1, b + y1, this.2, congrArg (Value.int .u64) (by omega), congrArg (Value.int .u64) (by omega)⟩
            case measure => simp [intOf]; omega
        · have S3 := Lib.hid (Divs.stop u u1 y1 y0 a b hT (by omega) (by omega))
          generalize hA : (a : Int) = A
          generalize hB : (b : Int) = B
          have hA1 : 0 ≤ A ∧ A ≤ 4294967297 := by omega
          have hB1 : 0 ≤ B ∧ B < 4294967296 := by omega
          have HA := Lib.hid hA
          have HB := Lib.hid hB
          have hA2 : A < 4294967296 := by omega
          have hm : ¬ 4294967296 * B + U1 < m := by have := HC.out; omega
          rw [hA] at ea
          clear hT hA hB ha hle hlt ht hmm hv
          go_wp2
          go_meet
          exact ⟨by rw [HQ.out, ← S3.out, HA.out], rfl⟩
  case rest =>
    obtain ⟨rfl, rfl⟩ := hcut
    have hr := Divs.rest u u1 Y s2 (Nat.lt_of_le_of_lt (Nat.zero_le _) hu)
    have hv := Divs.left_lt u u1 Y (Nat.lt_of_le_of_lt (Nat.zero_le _) hu)
    have hp := Divs.digit_lt u u1 Y hu b2
    have HW := Divs.whole hi lo y s hlo (Nat.lt_of_le_of_lt (Nat.zero_le _) h1) u u1 u0 (by rw [← HL.out]; exact HN.out) l2
    rw [HY.out] at HW
    generalize Divs.dq u u1 Y = p at *
    generalize Divs.dr u u1 Y = v at *
    have eR : IntKind.u64.wrap (IntKind.u64.wrap (IntKind.u64.wrap ((u : Int) * 4294967296) + U1) - IntKind.u64.wrap ((p : Int) * (Y : Int))) = (v : Int) := by
      rw [← hr, HC.out.2.2.1]
      simp only [IntKind.wrap_u64]
      generalize (p : Int) * (Y : Int) = pY
      omega
    have HA2 := Lib.hid (show Value.int .u64 (IntKind.u64.wrap ((v : Int) / Y1)) = .int .u64 ((v / y1 : Nat) : Int) by rw [HC.out.1]; exact first_digit v y1 (by omega))
    have HB2 := Lib.hid (show Value.int .u64 (IntKind.u64.wrap ((v : Int) - IntKind.u64.wrap (IntKind.u64.wrap ((v : Int) / Y1) * Y1))) = .int .u64 ((v % y1 : Nat) : Int) by rw [HC.out.1]; exact first_left v y1 (by omega) (by omega))
    have HW' := Lib.hid HW
    clear hr HW
    go_upto_block 2 with fail
    go_cut [18, 16] (fun x _ wx => x = .int .u64 (Divs.dq v u0 Y : Int) ∧ w = wx)
    case first =>
      go_wp2_with fail
      go_loop [18, 16] (fun x z => ∃ a b : Nat, Divs.Trial v u0 y1 y0 a b ∧ x = .int .u64 a ∧ z = .int .u64 b) (fun x _ => (intOf x).toNat)
      case atStart => exact ⟨_, _, Divs.start v u0 y1 y0 (by omega) (by omega) (by omega) (by omega) (by have := HQ.out; omega), HA2.out, HB2.out⟩
      case round =>
        obtain ⟨a, b, hT, rfl, rfl⟩ := hrel
        have hlt := hT.lt
        have hle := hT.le
        by_cases ha : 4294967296 ≤ a
        · have S1 := Lib.hid (fun h => Divs.step v u0 y1 y0 a b hT (by omega) (.inl ha) (by have := HQ.out; omega) (by omega) h)
          have S2 := Lib.hid (fun h => Divs.brk v u0 y1 y0 a b hT (by omega) (by omega) (.inl ha) (by have := HQ.out; omega) (by omega) h)
          generalize hA : (a : Int) = A
          generalize hB : (b : Int) = B
          have hA1 : 0 ≤ A ∧ A ≤ 4294967297 := by omega
          have hB1 : 0 ≤ B ∧ B < 4294967296 := by omega
          have HA := Lib.hid hA
          have HB := Lib.hid hB
          have hA2 : 4294967296 ≤ A := by omega
          clear hT hA hB ha hle hlt
          go_wp2
          · go_meet
            have hA := HA.out
            have hB := HB.out
            have hC := HC.out
            have := S2.out (by omega)
            exact ⟨by rw [HQ.out, ← this.2]; exact congrArg (Value.int .u64) (by omega), rfl⟩
          · have hA := HA.out
            have hB := HB.out
            have hC := HC.out
            have := S1.out (by omega)
            go_round
            case rel => exact ⟨a - 1, b + y1, this.2, congrArg (Value.int .u64) (by omega), congrArg (Value.int .u64) (by omega)⟩
            case measure => simp [intOf]; omega
        · have hmm : a * y0 ≤ 4294967295 * 4294967295 := Nat.mul_le_mul (by omega) (by omega)
          have ea : IntKind.u64.wrap ((a : Int) * Y0) = ((a * y0 : Nat) : Int) := by
            rw [HC.out.2.1, Mul64.mulN]; exact Mul64.wrapN _ (by omega)
          generalize hv : ((a * y0 : Nat) : Int) = m at ea
          by_cases ht : 4294967296 * b + u0 < a * y0
          · have S1 := Lib.hid (fun h => Divs.step v u0 y1 y0 a b hT (by omega) (.inr ht) (by have := HQ.out; omega) (by omega) h)
            have S2 := Lib.hid (fun h => Divs.brk v u0 y1 y0 a b hT (by omega) (by omega) (.inr ht) (by have := HQ.out; omega) (by omega) h)
            have hl1 : 1 ≤ a := by
              rcases Nat.eq_zero_or_pos a with h | h
              · subst h; simp at ht
              · exact h
            generalize hA : (a : Int) = A
            generalize hB : (b : Int) = B
            have hA1 : 0 ≤ A ∧ A ≤ 4294967297 := by omega
            have hB1 : 0 ≤ B ∧ B < 4294967296 := by omega
            have HA := Lib.hid hA
            have HB := Lib.hid hB
            have hA2 : 1 ≤ A ∧ A < 4294967296 := by omega
            have hm : 4294967296 * B + U0 < m := by have := HC.out; omega
            rw [hA] at ea
            clear hT hA hB ha hle hlt hl1 ht hmm hv
            go_wp2
            · go_meet
              have hA := HA.out
              have hB := HB.out
              have hC := HC.out
              have := S2.out (by omega)
              exact ⟨by rw [HQ.out, ← this.2]; exact congrArg (Value.int .u64) (by omega), rfl⟩
            · have hA := HA.out
              have hB := HB.out
              have hC := HC.out
              have := S1.out (by omega)
              go_round
              case rel => exact ⟨a - 1, b + y1, this.2, congrArg (Value.int .u64) (by omega), congrArg (Value.int .u64) (by omega)⟩
              case measure => simp [intOf]; omega
          · have S3 := Lib.hid (Divs.stop v u0 y1 y0 a b hT (by omega) (by omega))
            generalize hA : (a : Int) = A
            generalize hB : (b : Int) = B
            have hA1 : 0 ≤ A ∧ A ≤ 4294967297 := by omega
            have hB1 : 0 ≤ B ∧ B < 4294967296 := by omega
            have HA := Lib.hid hA
            have HB := Lib.hid hB
            have hA2 : A < 4294967296 := by omega
            have hm : ¬ 4294967296 * B + U0 < m := by have := HC.out; omega
            rw [hA] at ea
            clear hT hA hB ha hle hlt ht hmm hv
            go_wp2
            go_meet
            exact ⟨by rw [HQ.out, ← S3.out, HA.out], rfl⟩
    case rest =>
      obtain ⟨rfl, rfl⟩ := hcut
      have hr := Divs.rest v u0 Y s2 (Nat.lt_of_le_of_lt (Nat.zero_le _) hu)
      have hp0 := Divs.digit_lt v u0 Y hv l2
      generalize Divs.dq v u0 Y = p0 at *
      generalize Divs.dr v u0 Y = v0 at *
      have eR : IntKind.u64.wrap (IntKind.u64.wrap (IntKind.u64.wrap ((v : Int) * 4294967296) + U0) - IntKind.u64.wrap ((p0 : Int) * (Y : Int))) = (v0 : Int) := by
        rw [← hr, HC.out.2.2.2]
        simp only [IntKind.wrap_u64]
        generalize (p0 : Int) * (Y : Int) = pY
        omega
      clear hr
      go_wp2_with fail
      go_ret2
      refine ⟨congrArg Ending.returned (out_two p p0 v0 s _ _ hp hp0 HW'.out), rfl⟩

/-- Div64, wherever it does not panic -/
theorem div64 (hi lo y : Nat) (w : World) (hlo : lo < 18446744073709551616) (hy : y < 18446744073709551616) (h1 : hi < y) :
    Calls Tryz.prog 84 #[.int .u64 hi, .int .u64 lo, .int .u64 y] w fun e w' => e = .returned (.tuple #[.int .u64 (Divs.nq hi lo y : Int), .int .u64 (Divs.nr hi lo y : Int)]) ∧ ∃ k, w' = w.drewN k := by
  rcases Nat.eq_zero_or_pos hi with rfl | h0
  · refine (div64_low lo y w hlo hy h1).mono ?_
    rintro e w' ⟨rfl, hw⟩
    exact ⟨by simp [Divs.nq, Divs.nr], hw⟩
  · refine (div64_any hi lo y w hlo hy h0 h1).mono ?_
    rintro e w' ⟨rfl, rfl⟩
    exact ⟨rfl, 0, rfl⟩
theorem mul_div (a b y : Nat) : Divs.nq (a * b / 18446744073709551616) (a * b % 18446744073709551616) y = a * b / y ∧ Divs.nr (a * b / 18446744073709551616) (a * b % 18446744073709551616) y = a * b % y := by
  unfold Divs.nq Divs.nr
  rw [Nat.div_add_mod']
  exact ⟨rfl, rfl⟩
end Go.Proofs.YtgdagknjnidmiaaGreatDoor
/- A product of two numbers, divided by a third: bits.Mul64, then bits.Div64. -/
set_option linter.unusedVariables false
namespace Go.Proofs.YtgdagknjnidmiaaGreatDoor
open Go.RowKit

def Prod2 (x y m1 m2 : Nat) : Prop := m1 = x * y / 18446744073709551616 ∧ m2 = x * y % 18446744073709551616
theorem mul64 (x y : Nat) (w : World) (hx : x < 18446744073709551616) (hy : y < 18446744073709551616) :
    Calls Tryz.prog 83 #[.int .u64 x, .int .u64 y] w fun e w' => (∃ m1 m2 : Nat, Prod2 x y m1 m2 ∧ e = .returned (.tuple #[.int .u64 m1, .int .u64 m2])) ∧ w = w' := by
  refine (Tryz.bits_Mul64 x y hx hy w).mono ?_
  rintro e w' ⟨rfl, rfl⟩
  exact ⟨⟨_, _, ⟨rfl, rfl⟩, rfl⟩, rfl⟩
def Quo2 (x y s q r : Nat) : Prop := q = x * y / s ∧ r = x * y % s
theorem div_of_mul (x y s m1 m2 : Nat) (w : World) (h : Prod2 x y m1 m2) (hs : s < 18446744073709551616) (hl : x * y < 18446744073709551616 * s) :
    Calls Tryz.prog 84 #[.int .u64 m1, .int .u64 m2, .int .u64 s] w fun e w' => (∃ q r : Nat, Quo2 x y s q r ∧ e = .returned (.tuple #[.int .u64 q, .int .u64 r])) ∧ ∃ k, w' = w.drewN k := by
  obtain ⟨rfl, rfl⟩ := h
  refine (div64 _ _ s w (Nat.mod_lt _ (by omega)) hs (Nat.div_lt_of_lt_mul hl)).mono ?_
  rintro e w' ⟨rfl, hw⟩
  obtain ⟨e1, e2⟩ := mul_div x y s
  exact ⟨⟨_, _, ⟨e1, e2⟩, rfl⟩, hw⟩
theorem quo_facts (c z S q r : Nat) (h : Quo2 c z S q r) (hz : z ≤ S) (hS : 0 < S) : q ≤ c ∧ r < S := by
  obtain ⟨rfl, rfl⟩ := h
  have h : c * z ≤ c * S := Nat.mul_le_mul_left c hz
  refine ⟨?_, Nat.mod_lt _ hS⟩
  exact Nat.le_trans (Nat.div_le_div_right h) (by rw [Nat.mul_div_cancel _ hS]; exact Nat.le_refl _)
theorem prod_lt (c z S : Nat) (hc : c < 18446744073709551616) (hz : z ≤ S) (hS : 0 < S) : c * z < 18446744073709551616 * S :=
  Nat.lt_of_le_of_lt (Nat.mul_le_mul_left c hz) (Nat.mul_lt_mul_of_pos_right hc hS)
end Go.Proofs.YtgdagknjnidmiaaGreatDoor
/- Who gets the cents that are left: by greatest rest, of equal rests the first or the last. -/
set_option linter.unusedVariables false
namespace Go.Proofs.YtgdagknjnidmiaaGreatDoor.Deal
open Go.Sort

/-- i comes before j -/
def prec (last : Bool) {n : Nat} (rs : Fin n → Nat) (i j : Fin n) : Bool :=
  decide (rs j < rs i ∨ rs i = rs j ∧ (if last then j.val < i.val else i.val < j.val))
theorem prec_iff {last : Bool} {n : Nat} {rs : Fin n → Nat} {i j : Fin n} : prec last rs i j = true ↔ rs j < rs i ∨ rs i = rs j ∧ (if last then j.val < i.val else i.val < j.val) := by
  simp [prec]
theorem prec_not {last : Bool} {n : Nat} {rs : Fin n → Nat} {i j : Fin n} : prec last rs i j = false ↔ ¬ (rs j < rs i ∨ rs i = rs j ∧ (if last then j.val < i.val else i.val < j.val)) := by
  simp only [prec, decide_eq_false_iff_not]
theorem prec_swo (last : Bool) {n : Nat} (rs : Fin n → Nat) : SWO (prec last rs) := by
  refine ⟨fun x => ?_, fun x y z h1 h2 => ?_, fun x y z h1 h2 => ?_⟩
  · rw [prec_not]; cases last <;> simp
  · rw [prec_iff] at *; cases last <;> simp at * <;> omega
  · rw [prec_not] at *; cases last <;> simp at * <;> omega
theorem prec_total (last : Bool) {n : Nat} (rs : Fin n → Nat) (x y : Fin n) (h1 : prec last rs x y = false) (h2 : prec last rs y x = false) : x = y := by
  rw [prec_not] at *
  apply Fin.ext
  cases last <;> simp at * <;> omega

/-- the places in the order in which they get a cent -/
def order (last : Bool) {n : Nat} (rs : Fin n → Nat) : List (Fin n) := (List.finRange n).mergeSort (fun x y => !prec last rs y x)
theorem order_perm (last : Bool) {n : Nat} (rs : Fin n → Nat) : (order last rs).Perm (List.finRange n) := List.mergeSort_perm _ _
theorem order_len (last : Bool) {n : Nat} (rs : Fin n → Nat) : (order last rs).length = n := by rw [(order_perm last rs).length_eq]; simp
theorem order_mem (last : Bool) {n : Nat} (rs : Fin n → Nat) (i : Fin n) : i ∈ order last rs := (order_perm last rs).mem_iff.2 (by simp)
theorem order_nodup (last : Bool) {n : Nat} (rs : Fin n → Nat) : (order last rs).Nodup := (order_perm last rs).nodup_iff.2 (List.nodup_finRange n)
theorem order_sorted (last : Bool) {n : Nat} (rs : Fin n → Nat) : (order last rs).Pairwise (fun a b => prec last rs b a = false) := by
  have h := List.pairwise_mergeSort (le := fun x y => !prec last rs y x) (fun a b c h1 h2 => by
    simp only [Bool.not_eq_true'] at *
    exact (prec_swo last rs).ntrans _ _ _ h2 h1) (fun a b => by
    cases h : prec last rs b a with
    | false => rfl
    | true =>
      simp only [Bool.not_true, Bool.false_or, Bool.not_eq_true']
      cases h' : prec last rs a b with
      | false => rfl
      | true => have := (prec_swo last rs).trans _ _ _ h h'; rw [(prec_swo last rs).irrefl] at this; cases this) (List.finRange n)
  exact h.imp (fun h => by simpa using h)

/-- those that have got one after k rounds -/
def got (last : Bool) {n : Nat} (rs : Fin n → Nat) (k : Nat) (i : Fin n) : Bool := decide (i ∈ (order last rs).take k)
theorem got_zero (last : Bool) {n : Nat} (rs : Fin n → Nat) (i : Fin n) : got last rs 0 i = false := by simp [got]
theorem got_succ (last : Bool) {n : Nat} (rs : Fin n → Nat) (k : Nat) (hk : k < (order last rs).length) (i : Fin n) : got last rs (k + 1) i = (got last rs k i || decide (i = (order last rs)[k])) := by
  simp only [got]
  rw [List.take_succ_eq_append_getElem hk, Bool.eq_iff_iff]
  simp only [List.mem_append, List.mem_singleton, decide_eq_true_eq, Bool.or_eq_true]
/-- the next one has not got one, and comes before all others that have not -/
theorem next_free (last : Bool) {n : Nat} (rs : Fin n → Nat) (k : Nat) (hk : k < (order last rs).length) : got last rs k (order last rs)[k] = false := by
  simp only [got, decide_eq_false_iff_not]
  intro h
  have hn := order_nodup last rs
  rw [← List.take_append_drop k (order last rs), List.nodup_append] at hn
  refine hn.2.2 _ h _ ?_ rfl
  rw [List.drop_eq_getElem_cons hk]
  exact List.mem_cons_self
theorem next_first (last : Bool) {n : Nat} (rs : Fin n → Nat) (k : Nat) (hk : k < (order last rs).length) (i : Fin n) (hi : got last rs k i = false) : prec last rs i (order last rs)[k] = false := by
  have hm : i ∈ (order last rs).drop k := by
    have := order_mem last rs i
    rw [← List.take_append_drop k (order last rs), List.mem_append] at this
    rcases this with h | h
    · simp [got, h] at hi
    · exact h
  have hs := order_sorted last rs
  rw [← List.take_append_drop k (order last rs), List.pairwise_append] at hs
  have hd := hs.2.1
  rw [List.drop_eq_getElem_cons hk] at hd hm
  rw [List.pairwise_cons] at hd
  rcases List.mem_cons.1 hm with h | h
  · rw [h]; exact (prec_swo last rs).irrefl _
  · exact hd.1 i h

/-- the search for the next one, after j places -/
def Best (last : Bool) {n : Nat} (rs : Fin n → Nat) (k j : Nat) (b : Option (Fin n)) : Prop :=
  match b with
  | none => ∀ i : Fin n, i.val < j → got last rs k i = true
  | some b => b.val < j ∧ got last rs k b = false ∧ ∀ i : Fin n, i.val < j → got last rs k i = false → prec last rs i b = false
theorem best_zero (last : Bool) {n : Nat} (rs : Fin n → Nat) (k : Nat) : Best last rs k 0 none := fun i h => by omega
theorem best_end (last : Bool) {n : Nat} (rs : Fin n → Nat) (k : Nat) (hk : k < (order last rs).length) (b : Option (Fin n)) (h : Best last rs k n b) : b = some (order last rs)[k] := by
  cases b with
  | none =>
    have := h (order last rs)[k] (Fin.isLt _)
    rw [next_free] at this
    cases this
  | some b =>
    obtain ⟨_, h2, h3⟩ := h
    congr 1
    exact prec_total last rs _ _ (next_first last rs k hk b h2) (h3 _ (Fin.isLt _) (next_free last rs k hk))
theorem best_skip (last : Bool) {n : Nat} (rs : Fin n → Nat) (k j : Nat) (hj : j < n) (b : Option (Fin n)) (h : Best last rs k j b) (hg : got last rs k ⟨j, hj⟩ = true) : Best last rs k (j + 1) b := by
  have key : ∀ i : Fin n, i.val < j + 1 → i.val < j ∨ i = ⟨j, hj⟩ := fun i hi => by
    by_cases e : i.val = j
    · exact .inr (Fin.ext e)
    · exact .inl (by omega)
  cases b with
  | none =>
    intro i hi
    rcases key i hi with h' | rfl
    · exact h i h'
    · exact hg
  | some b =>
    obtain ⟨h1, h2, h3⟩ := h
    refine ⟨by omega, h2, fun i hi hgi => ?_⟩
    rcases key i hi with h' | rfl
    · exact h3 i h' hgi
    · rw [hg] at hgi; cases hgi
theorem best_keep (last : Bool) {n : Nat} (rs : Fin n → Nat) (k j : Nat) (hj : j < n) (b : Fin n) (h : Best last rs k j (some b)) (hp : prec last rs ⟨j, hj⟩ b = false) : Best last rs k (j + 1) (some b) := by
  obtain ⟨h1, h2, h3⟩ := h
  refine ⟨by omega, h2, fun i hi hgi => ?_⟩
  by_cases e : i.val = j
  · obtain rfl : i = ⟨j, hj⟩ := Fin.ext e
    exact hp
  · exact h3 i (by omega) hgi
theorem best_first (last : Bool) {n : Nat} (rs : Fin n → Nat) (k j : Nat) (hj : j < n) (h : Best last rs k j none) (hg : got last rs k ⟨j, hj⟩ = false) : Best last rs k (j + 1) (some ⟨j, hj⟩) := by
  refine ⟨Nat.lt_succ_self j, hg, fun i hi hgi => ?_⟩
  by_cases e : i.val = j
  · obtain rfl : i = ⟨j, hj⟩ := Fin.ext e
    exact (prec_swo last rs).irrefl _
  · rw [h i (by omega)] at hgi; cases hgi
theorem best_take (last : Bool) {n : Nat} (rs : Fin n → Nat) (k j : Nat) (hj : j < n) (b : Fin n) (h : Best last rs k j (some b)) (hg : got last rs k ⟨j, hj⟩ = false) (hp : prec last rs ⟨j, hj⟩ b = true) : Best last rs k (j + 1) (some ⟨j, hj⟩) := by
  obtain ⟨h1, h2, h3⟩ := h
  refine ⟨Nat.lt_succ_self j, hg, fun i hi hgi => ?_⟩
  by_cases e : i.val = j
  · obtain rfl : i = ⟨j, hj⟩ := Fin.ext e
    exact (prec_swo last rs).irrefl _
  · have := h3 i (by omega) hgi
    cases hq : prec last rs i ⟨j, hj⟩ with
    | false => rfl
    | true => have := (prec_swo last rs).trans _ _ _ hq hp; simp_all

/-! the sort that keeps equal ones in their order -/
section
variable {α : Type} [Inhabited α]
theorem swp_fst (d : Array α) (j : Nat) (hj : j + 1 < d.size) : (swp d (j + 1) j)[j]! = d[j + 1]! := by
  simp [swp, Array.getElem!_eq_getD, Array.getD_eq_getD_getElem?, show j < d.size by omega]
theorem swp_snd (d : Array α) (j : Nat) (hj : j + 1 < d.size) : (swp d (j + 1) j)[j + 1]! = d[j]! := by
  simp [swp, show j < d.size by omega, hj]
theorem swp_far (d : Array α) (j k : Nat) (h1 : k ≠ j) (h2 : k ≠ j + 1) : (swp d (j + 1) j)[k]! = d[k]! := by
  simp [swp, Array.getElem!_eq_getD, Array.getD_eq_getD_getElem?, h1.symm, h2.symm]
theorem swp_len (d : Array α) (i j : Nat) : (swp d i j).size = d.size := by simp [swp]
theorem inner_len (lt : α → α → Bool) : ∀ (j : Nat) (d : Array α), (insInner lt 0 j d).size = d.size
  | 0, d => by rw [insInner]
  | j + 1, d => by
    rw [insInner]
    split
    · rw [inner_len lt j, swp_len]
    · rfl
theorem inner_far (lt : α → α → Bool) : ∀ (j : Nat) (d : Array α) (k : Nat), j < k → (insInner lt 0 j d)[k]! = d[k]!
  | 0, d, k, _ => by rw [insInner]
  | j + 1, d, k, hk => by
    rw [insInner]
    split
    · rw [inner_far lt j _ k (by omega), swp_far d j k (by omega) (by omega)]
    · rfl
theorem inner_all (lt : α → α → Bool) (p : α → Prop) : ∀ (j : Nat) (d : Array α), j < d.size → (∀ k, k ≤ j → p d[k]!) → ∀ k, k ≤ j → p (insInner lt 0 j d)[k]!
  | 0, d, _, h, k, hk => by rw [insInner]; exact h k hk
  | j + 1, d, hj, h, k, hk => by
    rw [insInner]
    split
    · by_cases e : k = j + 1
      · subst e
        rw [inner_far lt j _ _ (by omega), swp_snd d j hj]
        exact h j (by omega)
      · refine inner_all lt p j _ (by rw [swp_len]; omega) (fun i hi => ?_) k (by omega)
        by_cases e' : i = j
        · subst e'; rw [swp_fst d i hj]; exact h _ (Nat.le_refl _)
        · rw [swp_far d j i e' (by omega)]; exact h i (by omega)
    · exact h k hk
theorem inner_eq (lt q : α → α → Bool) (key : α → Nat) (hq : ∀ x y, key y < key x → lt x y = q x y) : ∀ (j : Nat) (d : Array α), j < d.size → (∀ k, k < j → key d[k]! < key d[j]!) → insInner lt 0 j d = insInner q 0 j d
  | 0, d, _, _ => by rw [insInner, insInner]
  | j + 1, d, hj, h => by
    rw [insInner, insInner, hq _ _ (h j (by omega))]
    split
    · refine inner_eq lt q key hq j _ (by rw [swp_len]; omega) (fun k hk => ?_)
      rw [swp_fst d j hj, swp_far d j k (by omega) (by omega)]
      exact h k (by omega)
    · rfl
theorem outer_eq (lt q : α → α → Bool) (key : α → Nat) (hq : ∀ x y, key y < key x → lt x y = q x y) (n : Nat) : ∀ (m i : Nat) (d : Array α), n - i = m → n ≤ d.size → (∀ k, k < i → key d[k]! < i) → (∀ k, i ≤ k → k < n → key d[k]! = k) → insOuter lt 0 n i d = insOuter q 0 n i d
  | 0, i, d, hm, _, _, _ => by rw [insOuter_stop lt 0 n i d (by omega), insOuter_stop q 0 n i d (by omega)]
  | m + 1, i, d, hm, hs, h1, h2 => by
    rw [insOuter_go lt 0 n i d (by omega), insOuter_go q 0 n i d (by omega)]
    rw [inner_eq lt q key hq i d (by omega) (fun k hk => by rw [h2 i (by omega) (by omega)]; exact h1 k hk)]
    refine outer_eq lt q key hq n m (i + 1) _ (by omega) (by rw [inner_len]; exact hs) (fun k hk => ?_) (fun k hk hn => ?_)
    · refine inner_all q (fun x => key x < i + 1) i d (by omega) (fun k' hk' => ?_) k (by omega)
      by_cases e : k' = i
      · subst e; rw [h2 k' (by omega) (by omega)]; omega
      · have := h1 k' (by omega); omega
    · rw [inner_far q i d k (by omega)]; exact h2 k (by omega) hn
theorem sort_eq (lt q : α → α → Bool) (key : α → Nat) (hq : ∀ x y, key y < key x → lt x y = q x y) (d : Array α) (h0 : 0 < d.size) (hk : ∀ k, k < d.size → key d[k]! = k) : insertionSort lt d 0 d.size = insertionSort q d 0 d.size := by
  unfold insertionSort
  refine outer_eq lt q key hq d.size _ _ d rfl (Nat.le_refl _) (fun k h => ?_) (fun k _ h => hk k h)
  have := hk k (by omega); omega
end
end Go.Proofs.YtgdagknjnidmiaaGreatDoor.Deal
/- What is dealt: quotients, rests, what is left. -/
set_option linter.unusedVariables false
namespace Go.Proofs.YtgdagknjnidmiaaGreatDoor.Deal

def qN (c : Nat) (ws : List Nat) (j : Nat) : Nat := c * ws.getD j 0 / ws.sum
def rN (c : Nat) (ws : List Nat) (j : Nat) : Nat := c * ws.getD j 0 % ws.sum
def rF (c : Nat) (ws : List Nat) (i : Fin ws.length) : Nat := rN c ws i.val
def qSum (c : Nat) (ws : List Nat) (k : Nat) : Nat := ((ws.take k).map fun x => c * x / ws.sum).sum
def leftN (c : Nat) (ws : List Nat) : Nat := c - qSum c ws ws.length
def gotN (last : Bool) (c : Nat) (ws : List Nat) (k j : Nat) : Bool := if h : j < ws.length then got last (rF c ws) k ⟨j, h⟩ else false
/-- the whole answer -/
def dealL (last : Bool) (c : Nat) (ws : List Nat) : List Int :=
  (List.range ws.length).map fun j => ((qN c ws j + if gotN last c ws (leftN c ws) j then 1 else 0 : Nat) : Int)
theorem dealL_length (last : Bool) (c : Nat) (ws : List Nat) : (dealL last c ws).length = ws.length := by simp [dealL]

theorem sum_parts (c S : Nat) (l : List Nat) : (l.map fun x => c * x).sum = (l.map fun x => c * x / S).sum * S + (l.map fun x => c * x % S).sum := by
  induction l with
  | nil => simp
  | cons x l ih =>
    simp only [List.map_cons, List.sum_cons]
    rw [ih, Nat.add_mul]
    have := Nat.div_add_mod' (c * x) S
    omega
theorem sum_mul (c : Nat) (l : List Nat) : (l.map fun x => c * x).sum = c * l.sum := by
  induction l with
  | nil => simp
  | cons x l ih => simp only [List.map_cons, List.sum_cons]; rw [ih, Nat.mul_add]
theorem rests_lt (c S : Nat) (hS : 0 < S) (l : List Nat) (hl : l ≠ []) : (l.map fun x => c * x % S).sum < l.length * S := by
  induction l with
  | nil => exact absurd rfl hl
  | cons x l ih =>
    simp only [List.map_cons, List.sum_cons, List.length_cons]
    have h1 := Nat.mod_lt (c * x) hS
    rw [Nat.add_mul]
    by_cases h : l = []
    · subst h; simp; omega
    · have := ih h; omega
theorem qSum_le (c : Nat) (ws : List Nat) (hS : 0 < ws.sum) : qSum c ws ws.length ≤ c := by
  unfold qSum
  rw [List.take_length]
  have h := sum_parts c ws.sum ws
  rw [sum_mul] at h
  refine Nat.le_of_mul_le_mul_right (c := ws.sum) ?_ hS
  omega
theorem left_lt (c : Nat) (ws : List Nat) (hS : 0 < ws.sum) (hn : ws ≠ []) : leftN c ws < ws.length := by
  have h := sum_parts c ws.sum ws
  have hr := rests_lt c ws.sum hS ws hn
  have hq := qSum_le c ws hS
  rw [sum_mul] at h
  unfold leftN qSum at *
  rw [List.take_length] at *
  generalize (ws.map fun x => c * x / ws.sum).sum = q at *
  refine Nat.lt_of_mul_lt_mul_right (a := ws.sum) ?_
  rw [Nat.sub_mul]
  omega
theorem qSum_zero (c : Nat) (ws : List Nat) : qSum c ws 0 = 0 := by simp [qSum]
theorem qSum_succ (c : Nat) (ws : List Nat) (k : Nat) (hk : k < ws.length) : qSum c ws (k + 1) = qSum c ws k + qN c ws k := by
  unfold qSum qN
  rw [List.take_succ_eq_append_getElem hk, List.map_append, List.sum_append, List.getD_eq_getElem?_getD, List.getElem?_eq_getElem hk]
  simp only [List.map_cons, List.map_nil, List.sum_cons, List.sum_nil, Option.getD_some, Nat.add_zero]
theorem qSum_mono (c : Nat) (ws : List Nat) (k : Nat) : qSum c ws k ≤ qSum c ws ws.length := by
  unfold qSum
  rw [List.take_length]
  have h := congrArg (fun l => (l.map fun x => c * x / ws.sum).sum) (List.take_append_drop k ws)
  simp only [List.map_append, List.sum_append] at h
  omega
theorem qN_le (c : Nat) (ws : List Nat) (j : Nat) (hj : j < ws.length) (hS : 0 < ws.sum) : qN c ws j ≤ c := by
  have h1 := qSum_succ c ws j hj
  have h2 := qSum_mono c ws (j + 1)
  have h3 := qSum_le c ws hS
  omega
theorem rN_lt (c : Nat) (ws : List Nat) (j : Nat) (hS : 0 < ws.sum) : rN c ws j < ws.sum := Nat.mod_lt _ hS
/-- the quotients as a list -/
theorem qs_sum (c : Nat) (ws : List Nat) : ((List.range ws.length).map fun j => ((qN c ws j : Nat) : Int)).sum = (qSum c ws ws.length : Nat) := by
  have key : ∀ k, k ≤ ws.length → ((List.range k).map fun j => ((qN c ws j : Nat) : Int)).sum = (qSum c ws k : Nat) := by
    intro k
    induction k with
    | zero => intro _; simp [qSum]
    | succ k ih =>
      intro hk
      rw [List.range_succ, List.map_append, List.sum_append, ih (by omega), qSum_succ c ws k (by omega)]
      simp
  exact key _ (Nat.le_refl _)

section
variable (last : Bool) (c : Nat) (ws : List Nat)
theorem gotN_zero (j : Nat) : gotN last c ws 0 j = false := by
  unfold gotN
  split
  · exact got_zero _ _ _
  · rfl
/-- the place that gets the next cent -/
def nextN (k : Nat) : Nat := if h : k < (order last (rF c ws)).length then ((order last (rF c ws))[k]).val else 0
theorem nextN_lt (k : Nat) (hk : k < ws.length) : nextN last c ws k < ws.length := by
  unfold nextN
  rw [dif_pos (by rw [order_len]; exact hk)]
  exact Fin.isLt _
theorem gotN_succ (k j : Nat) (hk : k < ws.length) : gotN last c ws (k + 1) j = if j = nextN last c ws k then true else gotN last c ws k j := by
  have hk' : k < (order last (rF c ws)).length := by rw [order_len]; exact hk
  unfold gotN nextN
  rw [dif_pos hk']
  by_cases hj : j < ws.length
  · simp only [dif_pos hj]
    rw [got_succ _ _ _ hk']
    by_cases e : j = ((order last (rF c ws))[k]).val
    · rw [if_pos e]
      have : (⟨j, hj⟩ : Fin ws.length) = (order last (rF c ws))[k] := Fin.ext e
      simp [this]
    · rw [if_neg e]
      have : ¬ (⟨j, hj⟩ : Fin ws.length) = (order last (rF c ws))[k] := fun h => e (congrArg Fin.val h)
      simp [this]
  · simp only [dif_neg hj]
    rw [if_neg]
    intro e
    exact hj (by rw [e]; exact Fin.isLt _)
theorem gotN_next (k : Nat) (hk : k < ws.length) : gotN last c ws k (nextN last c ws k) = false := by
  have hk' : k < (order last (rF c ws)).length := by rw [order_len]; exact hk
  unfold gotN
  rw [dif_pos (nextN_lt last c ws k hk)]
  have : (⟨nextN last c ws k, nextN_lt last c ws k hk⟩ : Fin ws.length) = (order last (rF c ws))[k] := Fin.ext (show nextN last c ws k = ((order last (rF c ws))[k]).val from dif_pos hk')
  rw [this]
  exact next_free _ _ _ hk'
/-- the search, at places -/
def BestN (k j : Nat) (b : Option Nat) : Prop := ∃ x : Option (Fin ws.length), Best last (rF c ws) k j x ∧ b = x.map (·.val)
theorem bestN_zero (k : Nat) : BestN last c ws k 0 none := ⟨none, best_zero _ _ _, rfl⟩
theorem bestN_end (k : Nat) (hk : k < ws.length) (b : Option Nat) (h : BestN last c ws k ws.length b) : b = some (nextN last c ws k) := by
  have hk' : k < (order last (rF c ws)).length := by rw [order_len]; exact hk
  obtain ⟨x, h1, rfl⟩ := h
  rw [best_end _ _ _ hk' x h1]
  unfold nextN
  rw [dif_pos hk']
  rfl
theorem bestN_lt (k j b : Nat) (h : BestN last c ws k j (some b)) : b < j ∧ b < ws.length := by
  obtain ⟨x, h1, h2⟩ := h
  cases x with
  | none => cases h2
  | some x =>
    obtain rfl : b = x.val := by simpa using h2
    exact ⟨h1.1, x.isLt⟩
theorem bestN_skip (k j : Nat) (hj : j < ws.length) (b : Option Nat) (h : BestN last c ws k j b) (hg : gotN last c ws k j = true) : BestN last c ws k (j + 1) b := by
  obtain ⟨x, h1, h2⟩ := h
  unfold gotN at hg
  rw [dif_pos hj] at hg
  exact ⟨x, best_skip _ _ _ j hj x h1 hg, h2⟩
theorem bestN_first (k j : Nat) (hj : j < ws.length) (h : BestN last c ws k j none) (hg : gotN last c ws k j = false) : BestN last c ws k (j + 1) (some j) := by
  obtain ⟨x, h1, h2⟩ := h
  unfold gotN at hg
  rw [dif_pos hj] at hg
  cases x with
  | none => exact ⟨some ⟨j, hj⟩, best_first _ _ _ j hj h1 hg, rfl⟩
  | some x => cases h2
theorem bestN_keep (k j b : Nat) (hj : j < ws.length) (h : BestN last c ws k j (some b)) (hp : ¬ (rN c ws b < rN c ws j ∨ last = true ∧ rN c ws j = rN c ws b)) : BestN last c ws k (j + 1) (some b) := by
  have hb := bestN_lt last c ws k j b h
  obtain ⟨x, h1, h2⟩ := h
  cases x with
  | none => cases h2
  | some x =>
    obtain rfl : b = x.val := by simpa using h2
    refine ⟨some x, best_keep _ _ _ j hj x h1 ?_, h2⟩
    rw [prec_not]
    unfold rF
    cases last <;> simp at * <;> omega
theorem bestN_take (k j b : Nat) (hj : j < ws.length) (h : BestN last c ws k j (some b)) (hg : gotN last c ws k j = false) (hp : rN c ws b < rN c ws j ∨ last = true ∧ rN c ws j = rN c ws b) : BestN last c ws k (j + 1) (some j) := by
  have hb := bestN_lt last c ws k j b h
  obtain ⟨x, h1, h2⟩ := h
  unfold gotN at hg
  rw [dif_pos hj] at hg
  cases x with
  | none => cases h2
  | some x =>
    obtain rfl : b = x.val := by simpa using h2
    refine ⟨some ⟨j, hj⟩, best_take _ _ _ j hj x h1 hg ?_, rfl⟩
    rw [prec_iff]
    unfold rF
    cases last <;> simp at * <;> omega
end
end Go.Proofs.YtgdagknjnidmiaaGreatDoor.Deal
/- The contract of the references' dealt. -/
set_option linter.unusedVariables false
namespace Go.Proofs.YtgdagknjnidmiaaGreatDoor
open Go.RowKit Deal

theorem infoG_int : (Tryz.prog.info? 3).map (fun i => (i.zero, i.size, i.bytes)) = some (some (.int .i64 0), 1, 8) := by kernel_rfl
theorem infoG_u64 : (Tryz.prog.info? 135).map (fun i => (i.zero, i.size, i.bytes)) = some (some (.int .u64 0), 1, 8) := by kernel_rfl
theorem infoG_bool : (Tryz.prog.info? 4).map (fun i => (i.zero, i.size, i.bytes)) = some (some (.bool false), 1, 1) := by kernel_rfl

def upQ (c : Nat) (ws : List Nat) (k j : Nat) : Value := .int .i64 ((if j < k then qN c ws j else 0 : Nat) : Int)
def upR (c : Nat) (ws : List Nat) (k j : Nat) : Value := .int .u64 ((if j < k then rN c ws j else 0 : Nat) : Int)
def outG (last : Bool) (c : Nat) (ws : List Nat) (k j : Nat) : Value := .int .i64 ((qN c ws j + if gotN last c ws k j then 1 else 0 : Nat) : Int)

theorem upQ_succ (c : Nat) (ws : List Nat) (k j q : Nat) (hq : q = qN c ws k) : (if j = k then Value.int .i64 (q : Int) else upQ c ws k j) = upQ c ws (k + 1) j := by
  unfold upQ
  by_cases e : j = k
  · subst e; simp [hq]
  · rw [if_neg e]
    have : (j < k) = (j < k + 1) := propext ⟨fun h => by omega, fun h => by omega⟩
    simp only [this]
theorem upR_succ (c : Nat) (ws : List Nat) (k j q : Nat) (hq : q = rN c ws k) : (if j = k then Value.int .u64 (q : Int) else upR c ws k j) = upR c ws (k + 1) j := by
  unfold upR
  by_cases e : j = k
  · subst e; simp [hq]
  · rw [if_neg e]
    have : (j < k) = (j < k + 1) := propext ⟨fun h => by omega, fun h => by omega⟩
    simp only [this]
theorem below_dN {B : Nat} {a w : World} (h : Below B a w) (n : Nat) : Below B a (w.drewN n) := ⟨h.os, h.tape, h.output, h.size, h.block⟩
theorem outG_zero (last : Bool) (c : Nat) (ws : List Nat) (j k : Nat) (hj : j < k) : upQ c ws k j = outG last c ws 0 j := by
  simp [upQ, outG, gotN_zero, hj]
theorem upR_all (c : Nat) (ws : List Nat) (j k : Nat) (hj : j < k) : upR c ws k j = .int .u64 (rN c ws j : Nat) := by
  simp [upR, hj]
theorem upQ_all (c : Nat) (ws : List Nat) (j k : Nat) (hj : j < k) : upQ c ws k j = .int .i64 (qN c ws j : Nat) := by
  simp [upQ, hj]
theorem outG_succ (last : Bool) (c : Nat) (ws : List Nat) (m i nx qx : Nat) (hq : qN c ws nx = qx) (hg : gotN last c ws (m + 1) i = if i = nx then true else gotN last c ws m i) :
    (if i = nx then Value.int .i64 ((qx : Int) + 1) else outG last c ws m i) = outG last c ws (m + 1) i := by
  unfold outG
  rw [hg]
  by_cases e : i = nx
  · subst e; rw [if_pos rfl, if_pos rfl, hq]; simp
  · rw [if_neg e, if_neg e]
def bestV (b : Option Nat) : Int := match b with
  | none => -1
  | some b => b

set_option maxRecDepth 100000 in
set_option maxHeartbeats 4000000 in
theorem dealt_new (last : Bool) (c : Nat) (a : Option Addr) (ws : List Nat) (n cp : Nat) (w : World) (hc : c ≤ 1000000000000) (hn : ws.length = n) (hn0 : 0 < n) (hn1 : n ≤ 1000) (hr : natsAt w a ws) (hb : ∀ x ∈ ws, x ≤ 1000000000000) (hs0 : 0 < ws.sum) (hs1 : ws.sum ≤ 1000000000000000) :
    Calls Tryz.prog 57 #[.int .i64 c, .slice a n cp, .bool last] w fun e w' => ∃ g, e = .returned (.slice (some ⟨g, 0, none⟩) n n) ∧ IntsAt w' (some ⟨g, 0, none⟩) (dealL last c ws) ∧ Below w.heap.size w w' ∧ w.heap.size ≤ g := by
  obtain ⟨i0, hi, hz0, hz1, hz2⟩ := info_parts infoG_int
  obtain ⟨j0, hj, hy0, hy1, hy2⟩ := info_parts infoG_u64
  obtain ⟨b0, hb0, hx0, hx1, hx2⟩ := info_parts infoG_bool
  have HT := Lib.hid (total_nats a ws n cp w hn (by omega) hr hb)
  have HB := Lib.hid hb
  have HN := Lib.hid hn
  have HR := Lib.hid hr
  clear hb hn hr
  go_enter Tryz.func57, Tryz.ntmps57
  go_wp2_with fail
  with_reducible refine HT.out.mono ?_
  rintro e w' ⟨rfl, rfl⟩
  clear HT
  generalize hS : ws.sum = S at *
  have H1 := Lib.hid hS
  clear hS
  go_wp2_with (refine wpList_make_row _ rfl _ _ 22 rfl 3 i0 (.int .i64 0) Tryz.underlying22 hi hz0 hz1 rfl n rfl rfl ?c1 ?c2 ?_)
  case c1 => rw [hz2]; omega
  case c2 => unfold maxLen; omega
  intro w1 R1 g1 z1
  go_wp2_with (refine wpList_make_row _ rfl _ _ 137 rfl 135 j0 (.int .u64 0) Tryz.underlying137 hj hy0 hy1 rfl n rfl rfl ?c1 ?c2 ?_)
  case c1 => rw [hy2]; omega
  case c2 => unfold maxLen; omega
  intro w2 R2 g2 z2
  have R1' := R1.grown g2 (by simp)
  have B2 : Below w.heap.size w w2 := ((Below.refl _ _).grown g1 (Nat.le_refl _) (by simp)).grown g2 (by omega) (by simp)
  clear g1 g2 R1
  have Q2 : RowG w2 w.heap.size n (upQ c ws 0) := R1'.congr (fun j _ => by simp [upQ])
  have P2 : RowG w2 (w.heap.size + 1) n (upR c ws 0) := R2.congr (fun j _ => by simp [upR])
  clear R1' R2 z1
  go_wp2_with fail
  go_loopw [32] (fun i wr => ∃ k : Nat, k ≤ n ∧ i = .int .i64 k ∧ RowG wr w.heap.size n (upQ c ws k) ∧ RowG wr (w.heap.size + 1) n (upR c ws k) ∧ Below w.heap.size w wr ∧ wr.heap.size = w.heap.size + 2) (fun i _ => n - (intOf i).toNat)
  case atStart => exact ⟨0, Nat.zero_le _, rfl, Q2, P2, B2, z2⟩
  case round =>
    clear Q2 P2 B2 z2 w2 w1
    obtain ⟨k, hk, rfl, Q2, P2, B2, z2⟩ := hrel
    have HZ := Lib.hid z2
    have hsz : w.heap.size + 2 ≤ wr.heap.size := by omega
    clear z2
    by_cases hlt : k < n
    · have hkz : k < ws.length := by have := HN.out; omega
      obtain ⟨p, off, rfl, hp, hcell⟩ := HR.out.at_ hkz
      have hcell' := (B2.cell (p := ⟨p, off + k, none⟩) hp).trans hcell
      have z1 := HB.out ws[k] (List.getElem_mem hkz)
      have hzS : ws[k] ≤ S := by rw [← H1.out]; exact elem_le_sum ws k hkz
      have hqn : qN c ws k = c * ws[k] / S := by unfold qN; rw [H1.out]; simp [hkz]
      have hrn : rN c ws k = c * ws[k] % S := by unfold rN; rw [H1.out]; simp [hkz]
      have HQ := Lib.hid (And.intro hqn hrn)
      have c1 := Q2.cell k hlt
      have f1 := Q2.free k hlt
      have c2 := P2.cell k hlt
      have f2 := P2.free k hlt
      have HQ2 := Lib.hid Q2
      have HP2 := Lib.hid P2
      have HB2 := Lib.hid B2
      clear Q2 P2 B2 hcell hqn hrn
      generalize ws[k] = z at *
      generalize upQ c ws k k = o1 at *
      generalize upR c ws k k = o2 at *
      go_wp2_with fail
      with_reducible refine (mul64 c z _ (by omega) (by omega)).mono ?_
      rintro e w' ⟨⟨m1, m2, hm, rfl⟩, rfl⟩
      go_wp2_with fail
      with_reducible refine (div_of_mul c z S m1 m2 _ hm (by omega) (prod_lt c z S (by omega) hzS hs0)).mono ?_
      rintro e w' ⟨⟨q, r, hqr, rfl⟩, x, rfl⟩
      obtain ⟨hq, hr⟩ := quo_facts c z S q r hqr hzS hs0
      clear hm
      have ewq : IntKind.i64.wrap (q : Int) = q := by rw [IntKind.wrap_i64]; omega
      go_wp2
      go_roundw
      case rel =>
        refine ⟨k + 1, by omega, by go_num, ?_, ?_, ?_, ?_⟩
        · exact ((((HQ2.out.set k hlt _).far (by simp) _).congr (fun j _ => upQ_succ c ws k j q (hqr.1.trans HQ.out.1.symm)))).drewN x
        · exact ((((HP2.out.far (by simp) _).set k hlt _).congr (fun j _ => upR_succ c ws k j r (hqr.2.trans HQ.out.2.symm)))).drewN x
        · exact below_dN (((HB2.out.setCell (by simp) _).setCell (by simp) _)) x
        · simpa [World.setCell] using HZ.out
      case measure => simp [intOf]; omega
    · obtain rfl : k = n := by omega
      go_wp2_with (refine wpList_make_row _ rfl _ _ 141 rfl 4 b0 (.bool false) Tryz.underlying141 hb0 hx0 hx1 rfl k rfl rfl ?c1 ?c2 ?_)
      case c1 => rw [hx2]; omega
      case c2 => unfold maxLen; omega
      intro w3 R3 g3 z3
      have P3 := (P2.grown g3 (by simp)).congr (fun j hj => upR_all c ws j k hj)
      have Q3 := Q2.grown g3 (by simp)
      have B3 := B2.grown g3 (by omega) (by simp)
      have hle := qSum_le c ws (by rw [H1.out]; exact hs0)
      have hlt2 := left_lt c ws (by rw [H1.out]; exact hs0) (by intro h; rw [h] at HN; have := HN.out; simp at this; omega)
      have HI := Lib.hid (show IntsAt w3 (some ⟨w.heap.size, 0, none⟩) ((List.range ws.length).map fun j => ((qN c ws j : Nat) : Int)) from Q3.ints (by simpa using HN.out) (fun j hj => by
        rw [upQ_all c ws j k (by have := HN.out; simp at hj; omega)]
        simp))
      have HT := Lib.hid (total_any (some ⟨w.heap.size, 0, none⟩) _ k k w3 (by simpa using HN.out) (by omega) HI.out (fun z hz => by
        obtain ⟨j, hj, rfl⟩ := List.mem_map.1 hz
        have := qN_le c ws j (by simpa using hj) (by rw [H1.out]; exact hs0)
        omega))
      rw [qs_sum] at HT
      have Q4 := Q3.congr (fun j hj => outG_zero last c ws j k hj)
      have G4 : RowG w3 wr.heap.size k (fun j => .bool (gotN last c ws 0 j)) := R3.congr (fun j _ => by rw [gotN_zero])
      have HL : Hid (leftN c ws = c - qSum c ws ws.length) := Lib.hid rfl
      generalize leftN c ws = L at *
      have hsum : ((qSum c ws ws.length : Nat) : Int) = (c : Int) - L := by have := HL.out; omega
      rw [hsum] at HT
      have hL : L < k := by have := HN.out; omega
      have hwr := HZ.out
      have HO := Lib.hid Q4
      have HG := Lib.hid G4
      have HP := Lib.hid P3
      have HBB := Lib.hid B3
      clear HI Q2 Q3 P2 P3 B2 B3 R3 g3 Q4 G4 hsum hle hlt2 z3
      clear hsz HZ
      generalize wr.heap.size = gg at *
      subst hwr
      go_wp2_with fail
      with_reducible refine HT.out.mono ?_
      rintro e w4 ⟨rfl, rfl⟩
      clear HT
      go_wp2_with fail
      go_loopw [17, 18] (fun lf _ wr => ∃ m : Nat, m ≤ L ∧ lf = .int .i64 ((L : Int) - m) ∧ RowG wr w.heap.size k (outG last c ws m) ∧ RowG wr (w.heap.size + 1) k (fun j => .int .u64 (rN c ws j : Nat)) ∧
          RowG wr (w.heap.size + 2) k (fun j => .bool (gotN last c ws m j)) ∧ Below w.heap.size w wr) (fun lf _ _ => (intOf lf).toNat)
      case atStart => exact ⟨0, Nat.zero_le _, congrArg (Value.int .i64) (by omega), HO.out, HP.out, HG.out, HBB.out⟩
      case round =>
        clear HO HP HG HBB
        obtain ⟨m, hm, rfl, O, P, G, B⟩ := hrel
        have HO := Lib.hid O
        have HP := Lib.hid P
        have HG := Lib.hid G
        have HBB := Lib.hid B
        clear O P G B
        by_cases hml : m < L
        · have hmk : m < ws.length := by have := HN.out; omega
          go_wp2_with fail
          go_loop [18, 75] (fun b i => ∃ (j : Nat) (x : Option Nat), j ≤ k ∧ i = .int .i64 j ∧ BestN last c ws m j x ∧ b = .int .i64 (bestV x)) (fun _ i => k - (intOf i).toNat)
          case atStart => exact ⟨0, none, Nat.zero_le _, rfl, bestN_zero _ _ _ _, rfl⟩
          case round =>
            obtain ⟨j, x, hj, rfl, hB, rfl⟩ := hrel
            by_cases hjk : j < k
            · have hjw : j < ws.length := by have := HN.out; omega
              have c1 := HP.out.cell j hjk
              have c2 := HG.out.cell j hjk
              have r1 := rN_lt c ws j (by rw [H1.out]; exact hs0)
              cases hg : gotN last c ws m j with
              | true =>
                have HX := Lib.hid (bestN_skip last c ws m j hjw x hB hg)
                simp only [hg] at c2
                clear hB hg
                generalize rN c ws j = rj at *
                generalize hbx : bestV x = bx
                have HBX := Lib.hid hbx
                clear hbx
                go_wp2
                go_round
                case rel => exact ⟨j + 1, x, by omega, by go_num, HX.out, congrArg (Value.int .i64) HBX.out.symm⟩
                case measure => simp [intOf]; omega
              | false =>
                simp only [hg] at c2
                cases x with
                | none =>
                  have HX := Lib.hid (bestN_first last c ws m j hjw hB hg)
                  clear hB hg
                  generalize rN c ws j = rj at *
                  simp only [bestV]
                  go_wp2
                  go_round
                  case rel => exact ⟨j + 1, some j, by omega, by go_num, HX.out, rfl⟩
                  case measure => simp [intOf]; omega
                | some b =>
                  have hbl := bestN_lt last c ws m j b hB
                  have hbk : b < k := by have := HN.out; omega
                  have c3 := HP.out.cell b hbk
                  have KK := Lib.hid (bestN_keep last c ws m j b hjw hB)
                  have KT := Lib.hid (bestN_take last c ws m j b hjw hB hg)
                  have r2 := rN_lt c ws b (by rw [H1.out]; exact hs0)
                  clear hB hg
                  generalize rN c ws j = rj at *
                  generalize rN c ws b = rb at *
                  simp only [bestV]
                  by_cases h1 : rb < rj
                  · go_wp2
                    go_round
                    case rel => exact ⟨j + 1, some j, by omega, by go_num, KT.out (.inl h1), rfl⟩
                    case measure => simp [intOf]; omega
                  · by_cases h2 : rj = rb
                    · have h2' : ((rj : Int) == (rb : Int)) = true := by simp [h2]
                      have HE := Lib.hid h2
                      clear h2
                      cases hl : last with
                      | true =>
                        subst hl
                        go_wp2
                        go_round
                        case rel => exact ⟨j + 1, some j, by omega, by go_num, KT.out (.inr ⟨rfl, HE.out⟩), rfl⟩
                        case measure => simp [intOf]; omega
                      | false =>
                        subst hl
                        go_wp2
                        go_round
                        case rel => exact ⟨j + 1, some b, by omega, by go_num, KK.out (by rintro (h | ⟨h, _⟩); exact h1 h; cases h), rfl⟩
                        case measure => simp [intOf]; omega
                    · have h2' : ((rj : Int) == (rb : Int)) = false := by simp; omega
                      have HE := Lib.hid (show ¬ (rb < rj ∨ last = true ∧ rj = rb) by rintro (h | ⟨_, h⟩); exact h1 h; exact h2 h)
                      cases hl : last with
                      | true =>
                        subst hl
                        go_wp2
                        go_round
                        case rel => exact ⟨j + 1, some b, by omega, by go_num, KK.out HE.out, rfl⟩
                        case measure => simp [intOf]; omega
                      | false =>
                        subst hl
                        go_wp2
                        go_round
                        case rel => exact ⟨j + 1, some b, by omega, by go_num, KK.out HE.out, rfl⟩
                        case measure => simp [intOf]; omega
            · obtain rfl : j = k := by omega
              have hx := bestN_end last c ws m hmk x (by rw [HN.out]; exact hB)
              have hnl := nextN_lt last c ws m hmk
              have hnl' : nextN last c ws m < j := by have := HN.out; omega
              have c1 := HO.out.cell _ hnl'
              have f1 := HO.out.free _ hnl'
              have c2 := HG.out.cell _ hnl'
              have f2 := HG.out.free _ hnl'
              have hgn := gotN_next last c ws m hmk
              have hqn := qN_le c ws (nextN last c ws m) hnl (by rw [H1.out]; exact hs0)
              have S1 := Lib.hid (fun i => gotN_succ last c ws m i hmk)
              simp only [outG, hgn] at c1 c2
              subst hx
              clear hB hgn
              have HX := Lib.hid (rfl : nextN last c ws m = nextN last c ws m)
              simp only [bestV]
              generalize hnx : nextN last c ws m = nx at *
              have HNX := Lib.hid hnx
              have HQQ := Lib.hid (rfl : qN c ws nx = qN c ws nx)
              clear HX hnx
              generalize hqq : qN c ws nx = qx at *
              have HQX := Lib.hid hqq
              clear hqq HQQ
              simp only [Bool.false_eq_true, if_false, Nat.add_zero] at c1
              go_wp2
              go_roundw
              case rel =>
                refine ⟨m + 1, by omega, congrArg (Value.int .i64) (by omega), ?_, ?_, ?_, ?_⟩
                · exact ((HO.out.set nx hnl' _).far (by simp) _).congr (fun i _ => outG_succ last c ws m i nx qx HQX.out (S1.out i))
                · exact (HP.out.far (by simp) _).far (by simp) _
                · exact ((HG.out.far (by simp) _).set nx hnl' _).congr (fun i _ => by rw [S1.out i]; split <;> rfl)
                · exact (HBB.out.setCell (by simp) _).setCell (by simp) _
              case measure => simp [intOf]; omega
        · obtain rfl : m = L := by omega
          go_wp2
          go_ret
          refine ⟨w.heap.size, rfl, HO.out.ints (by rw [dealL_length, HN.out]) (fun j hj => ?_), HBB.out, Nat.le_refl _⟩
          have e : leftN c ws = m := HL.out.symm
          simp [dealL, outG, e]
theorem dealt_any (last : Bool) (c : Nat) (a : Option Addr) (ws : List Nat) (n cp : Nat) (w : World) (hc : c ≤ 1000000000000) (hn : ws.length = n) (hn0 : 0 < n) (hn1 : n ≤ 1000) (hr : natsAt w a ws) (hb : ∀ x ∈ ws, x ≤ 1000000000000) (hs0 : 0 < ws.sum) (hs1 : ws.sum ≤ 1000000000000000) :
    Calls Tryz.prog 57 #[.int .i64 c, .slice a n cp, .bool last] w fun e w' => ∃ g, e = .returned (.slice (some ⟨g, 0, none⟩) n n) ∧ IntsAt w' (some ⟨g, 0, none⟩) (dealL last c ws) ∧ Below w.heap.size w w' :=
  (dealt_new last c a ws n cp w hc hn hn0 hn1 hr hb hs0 hs1).mono fun e w' ⟨g, h1, h2, h3, _⟩ => ⟨g, h1, h2, h3⟩
end Go.Proofs.YtgdagknjnidmiaaGreatDoor
/- What Share answers, in plain words. -/
set_option linter.unusedVariables false
namespace Go.Proofs.YtgdagknjnidmiaaGreatDoor.Deal

def okZ (M z : Int) : Bool := decide (0 ≤ z ∧ z ≤ M)
def okL (M : Int) (zs : List Int) : Bool := zs.all (okZ M)
def zeroL (zs : List Int) : Bool := zs.all fun z => z == 0
def shE (cents : Int) (zs : List Int) : Int :=
  if cents < 0 ∨ 1000000000000 < cents then 1 else if 50 < zs.length then 2 else if okL 1000000000000 zs = false then 1 else if zeroL zs = true then 8 else 0
def shL (cents : Int) (zs : List Int) : List Int := if shE cents zs = 0 then dealL false cents.toNat (zs.map Int.toNat) else []

theorem okL_mem {M : Int} {zs : List Int} (h : okL M zs = true) {z : Int} (hz : z ∈ zs) : 0 ≤ z ∧ z ≤ M := by
  simp [okL, okZ] at h
  exact h z hz
theorem okL_take (M : Int) (zs : List Int) (k : Nat) (hk : k < zs.length) (h : okL M (zs.take k) = true) : okL M (zs.take (k + 1)) = okZ M zs[k] := by
  unfold okL at *
  rw [List.take_succ_eq_append_getElem hk, List.all_append, h]
  simp
theorem okL_not (M : Int) (zs : List Int) (k : Nat) (hk : k < zs.length) (h : okZ M zs[k] = false) : okL M zs = false := by
  rw [← Bool.not_eq_true]
  intro h2
  have := okL_mem h2 (List.getElem_mem hk)
  simp [okZ] at h
  omega
theorem zeroL_take (zs : List Int) (k : Nat) (hk : k < zs.length) : zeroL (zs.take (k + 1)) = (zeroL (zs.take k) && (zs[k] == 0)) := by
  unfold zeroL
  rw [List.take_succ_eq_append_getElem hk, List.all_append]
  simp
theorem ws_cast {M : Int} {zs : List Int} (h : okL M zs = true) : (zs.map Int.toNat).map (fun (x : Nat) => (x : Int)) = zs := by
  rw [List.map_map]
  refine Eq.trans (List.map_congr_left (g := id) fun z hz => ?_) (List.map_id zs)
  have := okL_mem h hz
  simp
  omega
theorem ws_le {M : Nat} {zs : List Int} (h : okL M zs = true) : ∀ x ∈ zs.map Int.toNat, x ≤ M := by
  intro x hx
  obtain ⟨z, hz, rfl⟩ := List.mem_map.1 hx
  have := okL_mem h hz
  omega
theorem ws_sum_le (M : Nat) (l : List Nat) (h : ∀ x ∈ l, x ≤ M) : l.sum ≤ l.length * M := by
  induction l with
  | nil => simp
  | cons x l ih =>
    have h1 := h x (by simp)
    have h2 := ih (fun y hy => h y (by simp [hy]))
    simp only [List.sum_cons, List.length_cons, Nat.add_mul]
    omega
theorem ws_pos {M : Int} {zs : List Int} (h : okL M zs = true) (hz : zeroL zs = false) : 0 < (zs.map Int.toNat).sum := by
  induction zs with
  | nil => simp [zeroL] at hz
  | cons z l ih =>
    simp only [List.map_cons, List.sum_cons]
    have h1 := okL_mem h (z := z) (by simp)
    by_cases e : z = 0
    · have h2 : okL M l = true := by simp [okL] at h ⊢; exact h.2
      have h3 : zeroL l = false := by
        subst e
        simpa [zeroL] using hz
      have := ih h2 h3
      omega
    · omega
theorem zeroL_nil {zs : List Int} (h : zeroL zs = false) : 0 < zs.length := by
  cases zs with
  | nil => simp [zeroL] at h
  | cons z l => simp
theorem zero_sum {M : Int} {zs : List Int} (h : okL M zs = true) (hz : zeroL zs = true) : (zs.map Int.toNat).sum = 0 := by
  induction zs with
  | nil => rfl
  | cons z l ih =>
    simp [zeroL] at hz
    have h2 : okL M l = true := by simp [okL] at h ⊢; exact h.2
    have h3 : zeroL l = true := by simp [zeroL]; exact hz.2
    simp only [List.map_cons, List.sum_cons, ih h2 h3, hz.1]
    rfl
end Go.Proofs.YtgdagknjnidmiaaGreatDoor.Deal
/- The contract of the reference ShareOf. -/
set_option linter.unusedVariables false
namespace Go.Proofs.YtgdagknjnidmiaaGreatDoor
open Go.RowKit Deal

/-- a slice value that reads as numbers -/
def SliceIs (w : World) (v : Value) (l : List Int) : Prop := ∃ a c, v = .slice a l.length c ∧ IntsAt w a l
theorem SliceIs.nil (w : World) : SliceIs w (.slice none 0 0) [] := ⟨none, 0, rfl, IntsAt.nil _ _⟩
theorem SliceIs.below {w w' : World} {v : Value} {l : List Int} (h : SliceIs w v l) (hb : Below w.heap.size w w') : SliceIs w' v l := by
  obtain ⟨a, c, h1, h2⟩ := h
  exact ⟨a, c, h1, h2.below hb⟩
/-- what both of them leave -/
def ShareOut (w : World) (cents : Int) (zs : List Int) (e : Ending) (w' : World) : Prop :=
  ∃ v, e = .returned (.tuple #[v, .int .i64 (shE cents zs)]) ∧ SliceIs w' v (shL cents zs) ∧ Below w.heap.size w w'
theorem shareOut_nil {w : World} {cents : Int} {zs : List Int} {k : Int} (h : shE cents zs = k) (hk : k ≠ 0) : ShareOut w cents zs (.returned (.tuple #[.slice none 0 0, .int .i64 k])) w := by
  refine ⟨_, by rw [h], ?_, Below.refl _ _⟩
  unfold shL
  rw [if_neg (by rw [h]; exact hk)]
  exact SliceIs.nil w

theorem shareOut_ok {w w' : World} {cents : Int} {zs : List Int} {g n c : Nat} (h : shE cents zs = 0) (hl : (shL cents zs).length = n) (hI : IntsAt w' (some ⟨g, 0, none⟩) (shL cents zs)) (hb : Below w.heap.size w w') :
    ShareOut w cents zs (.returned (.tuple #[.slice (some ⟨g, 0, none⟩) n c, .int .i64 0])) w' :=
  ⟨_, by rw [h], ⟨some ⟨g, 0, none⟩, c, by rw [hl], hI⟩, hb⟩

end Go.Proofs.YtgdagknjnidmiaaGreatDoor
/- Several lists of one's own that grow side by side. -/
set_option linter.unusedVariables false
namespace Go.Proofs.YtgdagknjnidmiaaGreatDoor
open Go.RowKit

/-- a slice that is owned: its element type, the cells of an element, the value, its length, its cells -/
structure Own where
  e : TypeId
  sz : Nat
  v : Value
  n : Nat
  l : List Value
structure Owns (b0 : Nat) (W : World) (rs : List Own) : Prop where
  own : ∀ r ∈ rs, W.ownsRow b0 r.e r.sz r.v r.n r.l
  apart : rs.Pairwise (fun r s => ∀ g, r.v.ownBlock = some g → s.v.ownBlock ≠ some g)

theorem grown_refl (w : World) (row : Option Nat) : w.grownBy w row := ⟨rfl, rfl, rfl, Nat.le_refl _, fun _ _ _ => rfl⟩
theorem none_ok {v : Value} : v.ownBlock = none ∨ v.ownBlock ≠ none := by
  cases v.ownBlock with
  | none => exact .inl rfl
  | some g => exact .inr (by simp)
theorem Owns.step {b0 : Nat} {w W : World} {rs : List Own} (h : Owns b0 w rs) (hR : w.grownBy W none) : Owns b0 W rs :=
  ⟨fun r hr => (h.own r hr).kept hR none_ok, h.apart⟩
theorem Owns.drewN {b0 : Nat} {w : World} {rs : List Own} (h : Owns b0 w rs) (n : Nat) : Owns b0 (w.drewN n) rs := ⟨h.own, h.apart⟩
theorem Owns.at_ {b0 : Nat} {w : World} (pre post : List Own) (r : Own) (h : Owns b0 w (pre ++ r :: post)) : w.ownsRow b0 r.e r.sz r.v r.n r.l := h.own r (by simp)
theorem Owns.app {b0 H : Nat} {w W w1 : World} (pre post : List Own) (r : Own) (h : Owns b0 w (pre ++ r :: post)) (hR : w.grownBy W none) (hb : b0 ≤ w.heap.size) {g n' cap : Nat} {l' : List Value}
    (hown : w1.ownsRow b0 r.e r.sz (.slice (some ⟨g, 0, none⟩) n' cap) n' l') (hgrow : W.grownBy w1 r.v.ownBlock) (hat : r.v.ownBlock = some g ∨ g = W.heap.size) (hH : ∀ k, r.v.ownBlock = some k → k < H) :
    Owns b0 w1 (pre ++ ⟨r.e, r.sz, .slice (some ⟨g, 0, none⟩) n' cap, n', l'⟩ :: post) ∧ Below b0 w w1 ∧ ∀ k u, H ≤ k → k < W.heap.size → W.cell? ⟨k, 0, none⟩ = some u → w1.cell? ⟨k, 0, none⟩ = some u := by
  have hS := h.step hR
  have hr := hS.at_ pre post r
  have hrow : ∀ k, r.v.ownBlock = some k → b0 ≤ k := fun k hk => (hr.lt k hk).1
  have ap := hS.apart
  rw [List.pairwise_append, List.pairwise_cons] at ap
  obtain ⟨ap1, ⟨ap2, ap3⟩, ap4⟩ := ap
  refine ⟨⟨fun s hs => ?_, ?_⟩, ?_, fun k u h1 h2 h3 => ?_⟩
  · have keep : ∀ s : Own, W.ownsRow b0 s.e s.sz s.v s.n s.l → (∀ k, r.v.ownBlock = some k → s.v.ownBlock ≠ some k) → w1.ownsRow b0 s.e s.sz s.v s.n s.l := fun s hs hne => by
      refine hs.kept hgrow ?_
      cases hv : r.v.ownBlock with
      | none => exact none_ok
      | some k => exact .inr (hne k hv)
    rcases List.mem_append.1 hs with hs | hs
    · exact keep s (hS.own s (by simp [hs])) (fun k hk hk' => ap4 s hs r (by simp) k hk' hk)
    · rcases List.mem_cons.1 hs with rfl | hs
      · exact hown
      · exact keep s (hS.own s (by simp [hs])) (fun k hk => ap2 s hs k hk)
  · have far : ∀ s ∈ pre ++ r :: post, (∀ k, r.v.ownBlock = some k → s.v.ownBlock ≠ some k) → s.v.ownBlock ≠ some g := fun s hs hne e => by
      rcases hat with hat | rfl
      · exact hne g hat e
      · have := ((hS.own s hs).lt _ e).2
        omega
    rw [List.pairwise_append, List.pairwise_cons]
    refine ⟨ap1, ⟨fun s hs k hk => ?_, ap3⟩, fun s hs s' hs' => ?_⟩
    · have : g = k := by simpa [Value.ownBlock] using hk
      subst this
      exact far s (by simp [hs]) (fun k hk => ap2 s hs k hk)
    · rcases List.mem_cons.1 hs' with rfl | hs'
      · intro k hk hk'
        have : g = k := by simpa [Value.ownBlock] using hk'
        subst this
        exact far s (by simp [hs]) (fun k hk hk' => ap4 s hs r (by simp) k hk' hk) hk
      · exact ap4 s hs s' (by simp [hs'])
  · have hz := hR.size
    have hB : Below b0 w W := ⟨hR.os, hR.tape, hR.output, hR.size, fun k hk => hR.block k (by omega) (by simp)⟩
    exact hB.grown hgrow (by omega) hrow
  · exact hgrow.cell h3 (fun e => by have := hH k e.symm; omega)
theorem Owns.set {b0 c : Nat} {w : World} {rs : List Own} (h : Owns b0 w rs) (hc : c < b0) (o : Nat) (u : Value) : Owns b0 (w.setCell ⟨c, o, none⟩ u) rs := by
  have hg : w.grownBy (w.setCell ⟨c, o, none⟩ u) (some c) := ⟨rfl, rfl, rfl, by simp [World.setCell], fun i _ hne => Below.heap_setCell w _ _ i (by rintro rfl; exact hne rfl)⟩
  refine ⟨fun r hr => (h.own r hr).kept hg ?_, h.apart⟩
  cases hv : r.v.ownBlock with
  | none => exact .inl rfl
  | some k =>
    refine .inr fun e => ?_
    have := ((h.own r hr).lt k hv).1
    simp at e
    omega
theorem new_cell {w : World} {k : Nat} {u : Value} {t : TypeId} (h : k = w.heap.size) : (w.alloc (.cells #[u] t (0, 0))).cell? ⟨k, 0, none⟩ = some u := by
  subst h
  have h := heap_alloc_new w (.cells #[u] t (0, 0))
  unfold World.cell?
  rw [h]
  rfl
theorem old_cell {w : World} {a : Addr} {u : Value} {o : Obj} (h : w.cell? a = some u) : (w.alloc o).cell? a = some u :=
  (World.cell?_alloc_lt w _ _ (World.block_lt_of_cell? w _ h)).trans h
theorem drew_cell {w : World} {a : Addr} {u : Value} (h : w.cell? a = some u) : w.drew.cell? a = some u := h
theorem cell_more {w : World} {a : Addr} {u : Value} (h : w.cell? a = some u) : ∀ o, (w.alloc o).cell? a = some u := fun o => old_cell h
theorem cell_more2 {w : World} {a : Addr} {u : Value} (h : w.cell? a = some u) : ∀ o o', ((w.alloc o).alloc o').cell? a = some u := fun o o' => old_cell (old_cell h)
theorem cell_more3 {w : World} {a : Addr} {u : Value} (h : w.cell? a = some u) : ∀ o o' o2, (((w.alloc o).alloc o').alloc o2).cell? a = some u := fun o o' o2 => old_cell (old_cell (old_cell h))
theorem news_one {w : World} {k : Nat} {u : Value} (h : w.cell? ⟨k, 0, none⟩ = some u) : ∀ j x, [u][j]? = some x → w.cell? ((⟨k, 0, none⟩ : Addr).add j) = some x := by
  intro j x hx
  rcases j with _ | j
  · simp at hx
    subst hx
    simpa [Addr.add] using h
  · simp at hx
end Go.Proofs.YtgdagknjnidmiaaGreatDoor
