/- slices.Compare at []int. -/
import Derived.Test.YtdefjnefkdemiaaGreatDoorNats
import Derived.Test.YtdefjnefkdemiaaGreatDoorMeasure
import Derived.Test.YtdefjnefkdemiaaGreatDoorM6
import Derived.Test.YtdefjnefkdemiaaGreatDoorM3
import Derived.Test.YtdefjnefkdemiaaGreatDoorStream
import Derived.RegionTactic
import Derived.Deep.DrawnRows
import Derived.Test.YtdefjnefkdemiaaGreatDoorPrice
import Derived.Test.YtdefjnefkdemiaaGreatDoorRows3
set_option linter.unusedVariables false
namespace Go.Proofs.YtdefjnefkdemiaaGreatDoor
open Go.RowKit

/-- the order of lists -/
def lexI : List Nat → List Nat → Int
  | [], [] => 0
  | [], _ :: _ => -1
  | _ :: _, [] => 1
  | x :: l, y :: m => if Frac.cmpI (x : Int) (y : Int) = 0 then lexI l m else Frac.cmpI (x : Int) (y : Int)
theorem lexI_step (l m : List Nat) (k : Nat) (h1 : k < l.length) (h2 : k < m.length) : lexI (l.drop k) (m.drop k) = if Frac.cmpI (l[k] : Int) (m[k] : Int) = 0 then lexI (l.drop (k + 1)) (m.drop (k + 1)) else Frac.cmpI (l[k] : Int) (m[k] : Int) := by
  rw [List.drop_eq_getElem_cons h1, List.drop_eq_getElem_cons h2]
  rfl
theorem lexI_end (l m : List Nat) (k : Nat) (h1 : k ≤ l.length) (h2 : k ≤ m.length) : (l.length = k → m.length = k → lexI (l.drop k) (m.drop k) = 0) ∧ (l.length = k → k < m.length → lexI (l.drop k) (m.drop k) = -1) ∧ (k < l.length → m.length = k → lexI (l.drop k) (m.drop k) = 1) := by
  refine ⟨fun a b => ?_, fun a b => ?_, fun a b => ?_⟩
  · rw [List.drop_of_length_le (by omega), List.drop_of_length_le (by omega)]; rfl
  · rw [List.drop_of_length_le (l := l) (by omega), List.drop_eq_getElem_cons b]; rfl
  · rw [List.drop_of_length_le (l := m) (by omega), List.drop_eq_getElem_cons a]; rfl

set_option maxHeartbeats 4000000 in
/-- slices.Compare at integers that are no less than 0 -/
theorem compare_nats (a a' : Option Addr) (l l' : List Nat) (n n' c c' : Nat) (w : World) (hn : l.length = n) (hn' : l'.length = n') (hn1 : n ≤ 1000) (hn2 : n' ≤ 1000) (h : natsAt w a l) (h' : natsAt w a' l') :
    Calls Tryz.prog 47 #[.slice a n c, .slice a' n' c'] w fun e w' => e = .returned (.int .i64 (lexI l l')) ∧ w = w' := by
  have HN := Lib.hid hn
  have HN' := Lib.hid hn'
  have HA := Lib.hid h
  have HA' := Lib.hid h'
  clear hn hn' h h'
  obtain ⟨R, hR⟩ : ∃ R, lexI l l' = R := ⟨_, rfl⟩
  rw [hR]
  have HR0 : Hid (lexI (l.drop 0) (l'.drop 0) = R) := Lib.hid (by simpa using hR)
  clear hR
  go_enter Tryz.func47, Tryz.ntmps47
  go_wp2_with fail
  go_loop [5, 6, 7, 8, 11] (fun _ _ _ _ i => ∃ k : Nat, k ≤ n ∧ k ≤ n' ∧ i = .int .i64 k ∧ Hid (lexI (l.drop k) (l'.drop k) = R)) (fun _ _ _ _ i => n - (intOf i).toNat)
  case atStart => exact ⟨0, Nat.zero_le _, Nat.zero_le _, rfl, HR0⟩
  case round =>
    obtain ⟨k, hk, hk', rfl, HR⟩ := hrel
    by_cases hlt : k < n
    · have hkl : k < l.length := by have := HN.out; omega
      obtain ⟨p, off, rfl, hp, c0⟩ := HA.out.at_ hkl
      by_cases hlt' : k < n'
      · have hkl' : k < l'.length := by have := HN'.out; omega
        obtain ⟨p', off', rfl, hp', c0'⟩ := HA'.out.at_ hkl'
        have HS := Lib.hid (lexI_step l l' k hkl hkl')
        generalize l[k] = x at *
        generalize l'[k] = y at *
        obtain ⟨v, hv⟩ : ∃ v, Frac.cmpI (x : Int) (y : Int) = v := ⟨_, rfl⟩
        have C := Lib.hid (fun w => compare_int (x : Int) (y : Int) w)
        rw [hv] at HS C
        clear hv
        by_cases hz : v = 0
        · have HR1 := Lib.hid ((HS.out.trans (if_pos hz)).symm.trans HR.out)
          subst hz
          go_wp2_with fail
          with_reducible refine (C.out _).mono ?_
          rintro e w1 ⟨rfl, rfl⟩
          go_wp2_with fail
          go_round
          case rel => exact ⟨k + 1, by omega, by omega, by go_num, HR1⟩
          case measure => simp [intOf]; omega
        · have HR1 := Lib.hid ((HS.out.trans (if_neg hz)).symm.trans HR.out)
          have hz1 : (v != 0) = true := by simpa using hz
          clear hz
          go_wp2_with fail
          with_reducible refine (C.out _).mono ?_
          rintro e w1 ⟨rfl, rfl⟩
          go_wp2_with fail
          go_ret
          exact ⟨ret_int HR1.out, rfl⟩
      · have HE := Lib.hid ((lexI_end l l' k (by omega) (by have := HN'.out; omega)).2.2 hkl (by have := HN'.out; omega))
        go_wp2_with fail
        go_ret
        exact ⟨ret_int (HE.out.symm.trans HR.out), rfl⟩
    · obtain rfl : k = n := by omega
      clear hlt hk
      by_cases hlt' : k < n'
      · have HE := Lib.hid ((lexI_end l l' k (by have := HN.out; omega) (by have := HN'.out; omega)).2.1 HN.out (by have := HN'.out; omega))
        go_wp2_with fail
        go_ret
        exact ⟨ret_int (HE.out.symm.trans HR.out), rfl⟩
      · have HE := Lib.hid ((lexI_end l l' k (by have := HN.out; omega) (by have := HN'.out; omega)).1 HN.out (by have := HN'.out; omega))
        go_wp2_with fail
        go_ret
        exact ⟨ret_int (HE.out.symm.trans HR.out), rfl⟩
end Go.Proofs.YtdefjnefkdemiaaGreatDoor
/- The best choice of offers, as plain lists: what fits, what a mask chooses of it, how the best is kept. -/
set_option linter.unusedVariables false
namespace Go.Proofs.YtdefjnefkdemiaaGreatDoor
open Go.RowKit

def fitAt (f : Of → Bool) (l : List Of) (i : Nat) : Bool := match l[i]? with
  | some x => f x
  | none => false
/-- the places before k that fit -/
def fitU (f : Of → Bool) (l : List Of) (k : Nat) : List Nat := (List.range k).filter (fitAt f l)
theorem fitU_succ (f : Of → Bool) (l : List Of) (k : Nat) (h : k < l.length) : fitU f l (k + 1) = fitU f l k ++ if f l[k] = true then [k] else [] := by
  unfold fitU
  rw [List.range_succ, List.filter_append]
  congr 1
  have e : fitAt f l k = f l[k] := by unfold fitAt; rw [List.getElem?_eq_getElem h]
  by_cases hf : f l[k] = true
  · rw [if_pos hf]; simp [e, hf]
  · rw [if_neg hf]; simp [e, hf]
theorem fitU_lt {f : Of → Bool} {l : List Of} {k i : Nat} (h : i ∈ fitU f l k) : i < k := by
  unfold fitU at h
  simpa using (List.mem_filter.1 h).1
theorem fitU_le (f : Of → Bool) (l : List Of) (k : Nat) : (fitU f l k).length ≤ k := by
  have h := List.length_filter_le (fitAt f l) (List.range k)
  simpa [fitU] using h
theorem fitU_fit {f : Of → Bool} {l : List Of} {k i : Nat} (h : i ∈ fitU f l k) : ∃ x, l[i]? = some x ∧ f x = true := by
  unfold fitU at h
  have h2 := (List.mem_filter.1 h).2
  unfold fitAt at h2
  cases hx : l[i]? with
  | none => rw [hx] at h2; cases h2
  | some x => rw [hx] at h2; exact ⟨x, rfl, h2⟩
/-- what a mask chooses of the first k -/
def selI (fit : List Nat) (mask k : Nat) : List Nat := ((List.range k).filter fun j => mask.testBit j).map fun j => fit.getD j 0
theorem selI_succ (fit : List Nat) (mask k : Nat) : selI fit mask (k + 1) = selI fit mask k ++ if mask.testBit k = true then [fit.getD k 0] else [] := by
  unfold selI
  rw [List.range_succ, List.filter_append, List.map_append]
  congr 1
  by_cases hf : mask.testBit k = true
  · rw [if_pos hf]; simp [hf]
  · rw [if_neg hf]; simp [hf]
theorem selI_zero (fit : List Nat) (k : Nat) : selI fit 0 k = [] := by
  unfold selI
  simp
theorem selI_le (fit : List Nat) (mask k : Nat) : (selI fit mask k).length ≤ k := by
  have h := List.length_filter_le (fun j => mask.testBit j) (List.range k)
  simpa [selI] using h
theorem selI_sub (fit : List Nat) (mask k : Nat) (hk : k ≤ fit.length) : (selI fit mask k).Sublist fit := by
  have h1 : (selI fit mask k).Sublist ((List.range k).map fun j => fit.getD j 0) := List.Sublist.map _ List.filter_sublist
  have h2 : ((List.range k).map fun j => fit.getD j 0) = fit.take k := by
    apply List.ext_getElem
    · simp; omega
    · intro i a b
      simp only [List.length_map, List.length_range] at a
      simp only [List.getElem_map, List.getElem_range, List.getElem_take]
      rw [List.getD_eq_getElem?_getD, List.getElem?_eq_getElem (by omega)]
      rfl
  rw [h2] at h1
  exact h1.trans (List.take_sublist _ _)
theorem selI_mem {fit : List Nat} {mask k i : Nat} (hk : k ≤ fit.length) (h : i ∈ selI fit mask k) : i ∈ fit := (selI_sub fit mask k hk).subset h
/-- the offers at places -/
def selO (l : List Of) (c : List Nat) : List Of := c.filterMap fun i => l[i]?
theorem selO_nil (l : List Of) : selO l [] = [] := rfl
theorem selO_snoc (l : List Of) (c : List Nat) (i : Nat) (h : i < l.length) : selO l (c ++ [i]) = selO l c ++ [l[i]] := by
  unfold selO
  rw [List.filterMap_append]
  simp [List.getElem?_eq_getElem h]
theorem selO_len {l : List Of} {c : List Nat} (h : ∀ i ∈ c, i < l.length) : (selO l c).length = c.length := by
  induction c with
  | nil => rfl
  | cons i c ih =>
    have h1 := h i (by simp)
    have h2 := ih fun j hj => h j (by simp [hj])
    unfold selO at *
    rw [List.filterMap_cons, List.getElem?_eq_getElem h1]
    simpa using h2
theorem selO_mem {l : List Of} {c : List Nat} {x : Of} (h : x ∈ selO l c) : ∃ i ∈ c, l[i]? = some x := by
  unfold selO at h
  exact List.mem_filterMap.1 h
theorem range_sel (l : List Of) : ∀ k, k ≤ l.length → selO l (List.range k) = l.take k
  | 0, _ => rfl
  | k + 1, h => by
    rw [List.range_succ, selO_snoc l _ k (by omega), range_sel l k (by omega), List.take_succ_eq_append_getElem (by omega)]
theorem selO_sub {l : List Of} {c : List Nat} (h : c.Sublist (List.range l.length)) : (selO l c).Sublist l := by
  have h1 : (selO l c).Sublist (selO l (List.range l.length)) := List.Sublist.filterMap _ h
  rw [range_sel l _ (Nat.le_refl _), List.take_length] at h1
  exact h1
theorem fitU_sub (f : Of → Bool) (l : List Of) : (fitU f l l.length).Sublist (List.range l.length) := List.filter_sublist

theorem ofSt_less {b1 b2 b2' bk b3 b4 bg bs : Bool} {te : Int} (h : ofSt b1 b2 bk b3 b4 bg te bs = 0) (h2 : b2' = true → b2 = true) : ofSt b1 b2' bk b3 b4 bg te bs = 0 := by
  unfold ofSt at *
  cases b1 <;> cases b2 <;> cases b2' <;> simp_all
theorem hasS_less {l l' : List ByteArray} {s : ByteArray} (h : ∀ x ∈ l', x ∈ l) (h2 : hasS l' s = true) : hasS l s = true := by
  unfold hasS at *
  rw [List.any_eq_true] at *
  obtain ⟨x, hx, e⟩ := h2
  exact ⟨x, h x hx, e⟩
theorem ofGo_sub {r r' : List Of} (hs : r'.Sublist r) : ∀ (pre pre' : List Of), (∀ y ∈ pre', y ∈ pre) → ofGo pre r = 0 → ofGo pre' r' = 0 := by
  induction hs with
  | slnil => intro pre pre' _ _; rfl
  | cons x hs ih =>
    intro pre pre' hp h
    rw [ofGo] at h
    split at h
    · exact ih (pre ++ [x]) pre' (fun y hy => by simp [hp y hy]) h
    · exact absurd h ‹_›
  | cons_cons x hs ih =>
    intro pre pre' hp h
    rw [ofGo] at h
    split at h
    · rename_i h0
      have h1 : ofstepE pre' x = 0 := ofSt_less h0 (hasS_less (fun k hk => by
        obtain ⟨y, hy, rfl⟩ := List.mem_map.1 hk
        exact List.mem_map.2 ⟨y, hp y hy, rfl⟩))
      rw [ofGo, if_pos h1]
      exact ih (pre ++ [x]) (pre' ++ [x]) (fun y hy => by
        rcases List.mem_append.1 hy with hy | hy
        · simp [hp y hy]
        · simp [List.mem_singleton.1 hy]) h
    · exact absurd h ‹_›
theorem ofE_sub {l l' : List Of} (hs : l'.Sublist l) (h : ofE l = 0) : ofE l' = 0 := ofGo_sub hs [] [] (by simp) h

/-- what is paid -/
def PrS.tot (s : PrS) : Nat := s.ship + s.left.sum
structure BsS where
  best : List Nat
  pr : PrS
def btV (s : PrS) (c : List Nat) (b : BsS) : Int := orF [Frac.cmpI (s.tot : Int) (b.pr.tot : Int), Frac.cmpI (c.length : Int) (b.best.length : Int), lexI c b.best]
def prOf (li : List It) (ship : Int) (o : List Of) : PrS := goP li (startP li ship) (srtO o) o.length
def bsStep (l : List Of) (li : List It) (ship : Int) (fit : List Nat) (b : BsS) (mask : Nat) : BsS :=
  if togB (selO l (selI fit mask fit.length)) = true then (if btV (prOf li ship (selO l (selI fit mask fit.length))) (selI fit mask fit.length) b < 0 then ⟨selI fit mask fit.length, prOf li ship (selO l (selI fit mask fit.length))⟩ else b) else b
def bsGo (l : List Of) (li : List It) (ship : Int) (fit : List Nat) : Nat → BsS
  | 0 => ⟨[], startP li ship⟩
  | k + 1 => bsStep l li ship fit (bsGo l li ship fit k) (k + 1)
theorem prOf_nil (li : List It) (ship : Int) : prOf li ship [] = startP li ship := rfl
theorem togB_nil : togB [] = true := rfl
/-- what is priced of a choice of what fits -/
theorem prE_sel (l o : List Of) (li : List It) (ship t : Int) (hs : o.Sublist l) (h0 : chkV (ofE l) (bkE li ship) (wB t 0 4321439) = 0) (hf : ∀ x ∈ o, nfB li ship t x = false) :
    bkPrE o li ship t = (if togB o = true then 0 else 16) ∧ (togB o = true → bkPrS o li ship t = prOf li ship o) := by
  obtain ⟨h1, h2, h3⟩ := chkV_0 h0
  have e1 : chkV (ofE o) (bkE li ship) (wB t 0 4321439) = 0 := by rw [ofE_sub hs h1]; rw [h1] at h0; exact h0
  have e2 : (o.any (nfB li ship t)) = false := by
    rw [List.any_eq_false]
    intro x hx
    rw [hf x hx]
    decide
  have e3 : bkPrE o li ship t = if togB o = true then 0 else 16 := by
    unfold bkPrE
    rw [if_pos e1, e2]
    rfl
  refine ⟨e3, fun ht => ?_⟩
  unfold bkPrS prOf
  rw [if_pos (by rw [e3, if_pos ht])]
end Go.Proofs.YtdefjnefkdemiaaGreatDoor
/- A region that draws its order, by an invariant: what holds of the slots that it writes and of the world, whichever operations have come up. -/
set_option linter.unusedVariables false
namespace Go.Proofs.YtdefjnefkdemiaaGreatDoor
open Go.RowKit

section
variable {P : Program} {md : Region.Mode} {ops : Array Oper} {Q : Exit → Act → World → Prop}
/-- the frame a0 with the slots ds as v says -/
def setAll (a0 : Act) (ds : List Nat) (v : Nat → Value) : Act := ds.foldl (fun a d => a.put (some d) (v d)) a0
def upd (v : Nat → Value) (d : Nat) (x : Value) : Nat → Value := fun e => if e = d then x else v e

theorem wpAny_run (I : Nat → Array Bool → Act → World → Prop) (h0 : ∀ listed a w, I 0 listed a w → wpAny P md ops Q 0 listed a w)
    (hs : ∀ fuel listed a w, I (fuel + 1) listed a w → wpAny P md ops Q (fuel + 1) listed a w ∨ (Region.ready md ops listed ≠ [] ∧ ∀ i ∈ Region.ready md ops listed, wpOp P ops Q i (fun a' w' => I fuel (listed.setIfInBounds i true) a' w') a w)) :
    ∀ fuel listed a w, I fuel listed a w → wpAny P md ops Q fuel listed a w
  | 0, listed, a, w, h => h0 listed a w h
  | fuel + 1, listed, a, w, h => by
    rcases hs fuel listed a w h with h1 | ⟨h1, h2⟩
    · exact h1
    · exact ⟨fun h3 => absurd h3 h1, fun i hi => wpOp_mono (fun a' w' h' => wpAny_run I h0 hs fuel _ a' w' h') (h2 i hi)⟩

/-- an operation that is not guarded -/
theorem wpOp_plain {i : Nat} {o : Oper} {K : Act → World → Prop} {a : Act} {w : World} (hi : ops[i]? = some o) (hg : o.guard = none) (h : Oper.wp P o a w K Q) : wpOp P ops Q i K a w := by
  unfold Go.wpOp
  simp only [hi]
  rw [if_pos (by simp [Region.wanted, hg])]
  exact .inl h

theorem upd_same {v : Nat → Value} {d : Nat} {x : Value} (h : v d = x) : upd v d x = v := by
  funext e
  unfold upd
  split
  · rename_i he; rw [he, h]
  · rfl

/-- by an invariant over the slots ds -/
theorem wpAny_inv {a0 : Act} {w0 : World} {fuel0 : Nat} {listed0 : Array Bool} (ds : List Nat) (v0 : Nat → Value) (J : Nat → Array Bool → (Nat → Value) → World → Prop) (ha : a0 = setAll a0 ds v0) (hst : J fuel0 listed0 v0 w0)
    (hs : ∀ fuel listed v w, J fuel listed v w → wpAny P md ops Q fuel listed (setAll a0 ds v) w ∨
      ∃ f, fuel = f + 1 ∧ Region.ready md ops listed ≠ [] ∧ ∀ i ∈ Region.ready md ops listed, wpOp P ops Q i (fun a' w' => ∃ v', a' = setAll a0 ds v' ∧ J f (listed.setIfInBounds i true) v' w') (setAll a0 ds v) w) :
    wpAny P md ops Q fuel0 listed0 a0 w0 := by
  refine wpAny_run (fun fuel listed a w => ∃ v, a = setAll a0 ds v ∧ J fuel listed v w) ?_ ?_ fuel0 listed0 a0 w0 ⟨v0, ha, hst⟩
  · rintro listed a w ⟨v, rfl, h⟩
    rcases hs 0 listed v w h with h1 | ⟨f, hf, _⟩
    · exact h1
    · omega
  · rintro fuel listed a w ⟨v, rfl, h⟩
    rcases hs (fuel + 1) listed v w h with h1 | ⟨f, hf, h2, h3⟩
    · exact .inl h1
    · obtain rfl : fuel = f := by omega
      exact .inr ⟨h2, h3⟩
end
/-- an operation that is not guarded, and that does not panic -/
theorem wpOp_calm {P : Program} {ops : Array Oper} {Q : Exit → Act → World → Prop} {i : Nat} {o : Oper} {K : Act → World → Prop} {a : Act} {w : World} (hi : ops[i]? = some o) (hg : o.guard = none)
    (h : ∀ (K' : Act → World → Prop) (Q' : Exit → Act → World → Prop), (∀ a' w', K a' w' → K' a' w') → Oper.wp P o a w K' Q') : wpOp P ops Q i K a w :=
  wpOp_plain hi hg (h K Q fun _ _ h => h)
end Go.Proofs.YtdefjnefkdemiaaGreatDoor
/- A region that draws its order, by an invariant that is told by which of its operations have come up. -/
set_option linter.unusedVariables false
namespace Go.Proofs.YtdefjnefkdemiaaGreatDoor
open Go.RowKit

section
variable {P : Program} {ops : Array Oper} {Q : Exit → Act → World → Prop}
abbrev Msk := Nat → Bool
def mset (b : Msk) (i : Nat) : Msk := fun j => if j = i then true else b j
theorem mset_at (b : Msk) (i : Nat) : mset b i i = true := by simp [mset]
theorem mset_ne (b : Msk) {i j : Nat} (h : j ≠ i) : mset b i j = b j := by simp [mset, h]
/-- the list of what has come up -/
def mlit (base : Array Bool) (T : List Nat) (b : Msk) : Array Bool := T.foldl (fun l i => if b i then l.setIfInBounds i true else l) base
def mtest (ops : Array Oper) (base : Array Bool) (T : List Nat) (D : Nat → List Nat) (b : Msk) : Bool :=
  !(T.all fun i => !b i || (D i).all b) || T.all b ||
    (!(Region.ready .any ops (mlit base T b)).isEmpty && (Region.ready .any ops (mlit base T b)).all fun i => T.contains i && !b i && (D i).all b)
def mall (t : Msk → Bool) : List Nat → Msk → Bool
  | [], b => t b
  | i :: T, b => mall t T b && mall t T (mset b i)
theorem mall_at {t : Msk → Bool} : ∀ (T : List Nat) (b0 b : Msk), mall t T b0 = true → (∀ i, i ∉ T → b i = b0 i) → (∀ i, b0 i = true → b i = true) → t b = true
  | [], b0, b, h, h1, h2 => by
    have e : b = b0 := funext fun i => h1 i (by simp)
    rw [e]; exact h
  | i :: T, b0, b, h, h1, h2 => by
    simp only [mall, Bool.and_eq_true] at h
    cases hb : b i with
    | true =>
      refine mall_at T (mset b0 i) b h.2 (fun j hj => ?_) (fun j hj => ?_)
      · by_cases hji : j = i
        · subst hji; rw [hb, mset_at]
        · rw [mset_ne _ hji]; exact h1 j (by simp [hji, hj])
      · by_cases hji : j = i
        · subst hji; exact hb
        · rw [mset_ne _ hji] at hj; exact h2 j hj
    | false =>
      refine mall_at T b0 b h.1 (fun j hj => ?_) h2
      by_cases hji : j = i
      · subst hji
        cases h0 : b0 j with
        | true => have := h2 j h0; rw [hb] at this; cases this
        | false => exact hb
      · exact h1 j (by simp [hji, hj])

theorem mlit_set {base : Array Bool} {b : Msk} : ∀ (T : List Nat) (base : Array Bool) (i : Nat), i ∈ T → (mlit base T b).setIfInBounds i true = mlit base T (mset b i) := by
  have hcom : ∀ (l : Array Bool) (i j : Nat), (l.setIfInBounds i true).setIfInBounds j true = (l.setIfInBounds j true).setIfInBounds i true := fun l i j => by
    by_cases h : i = j
    · subst h; rfl
    · exact Array.setIfInBounds_comm _ _ h
  have hout : ∀ (T : List Nat) (base : Array Bool) (i : Nat), (mlit base T b).setIfInBounds i true = mlit (base.setIfInBounds i true) T b := by
    intro T
    induction T with
    | nil => intro base i; rfl
    | cons j T ih =>
      intro base i
      simp only [mlit, List.foldl_cons] at ih ⊢
      rw [ih]
      split
      · rw [hcom]
      · rfl
  have hidem : ∀ (l : Array Bool) (i : Nat), (l.setIfInBounds i true).setIfInBounds i true = l.setIfInBounds i true := fun l i => by simp
  have hsame : ∀ (T : List Nat) (base : Array Bool) (i : Nat), mlit (base.setIfInBounds i true) T (mset b i) = mlit (base.setIfInBounds i true) T b := by
    intro T
    induction T with
    | nil => intro base i; rfl
    | cons j T ih =>
      intro base i
      simp only [mlit, List.foldl_cons] at ih ⊢
      by_cases hji : j = i
      · subst hji
        rw [mset_at, if_pos rfl, hidem, ih]
        split <;> rfl
      · rw [mset_ne _ hji]
        split
        · rw [hcom, ih]
        · rw [ih]
  intro T
  induction T with
  | nil => intro base i h; simp at h
  | cons j T ih =>
    intro base i h
    by_cases hji : j = i
    · subst hji
      have h1 := hout T (if b j then base.setIfInBounds j true else base) j
      simp only [mlit, List.foldl_cons] at h1 ⊢
      rw [h1]
      have h2 := hsame T base j
      simp only [mlit] at h2
      rw [mset_at, if_pos rfl, h2]
      split
      · rw [hidem]
      · rfl
    · have hi : i ∈ T := by
        rcases List.mem_cons.1 h with h | h
        · exact absurd h.symm hji
        · exact h
      have := ih (if b j then base.setIfInBounds j true else base) i hi
      simp only [mlit, List.foldl_cons] at this ⊢
      rw [this, mset_ne _ hji]

/-- a drawn region whose operations T come up in whatever order keeps D: J says what holds when those of b have come up -/
theorem wpAny_mask {a0 : Act} {w0 : World} {n m : Nat} (base : Array Bool) (T : List Nat) (D : Nat → List Nat) (ds : List Nat) (v0 : Nat → Value) (J : Msk → (Nat → Value) → World → Prop)
    (hm : m = n + T.length) (hnd : T.Nodup) (ha : a0 = setAll a0 ds v0) (hpos : mall (mtest ops base T D) T (fun _ => false) = true) (hst : J (fun _ => false) v0 w0)
    (hs : ∀ i ∈ T, ∀ b v w, b i = false → (∀ j ∈ D i, b j = true) → J b v w → wpOp P ops Q i (fun a' w' => ∃ v', a' = setAll a0 ds v' ∧ J (mset b i) v' w') (setAll a0 ds v) w)
    (hend : ∀ b v w, (∀ i ∈ T, b i = true) → J b v w → wpAny P .any ops Q n (mlit base T fun _ => true) (setAll a0 ds v) w) :
    wpAny P .any ops Q m base a0 w0 := by
  have hcnt : ∀ (T : List Nat) (b : Msk) (i : Nat), i ∈ T → T.Nodup → b i = false → (T.filter fun j => !b j).length = (T.filter fun j => !mset b i j).length + 1 := by
    intro T
    induction T with
    | nil => intro b i h; simp at h
    | cons j T ih =>
      intro b i h hn hb
      rw [List.nodup_cons] at hn
      by_cases hji : j = i
      · subst hji
        have hT : T.filter (fun k => !mset b j k) = T.filter fun k => !b k := List.filter_congr fun k hk => by
          rw [mset_ne _ (fun e : k = j => hn.1 (by rw [← e]; exact hk))]
        simp [hb, mset_at, hT]
      · have hi : i ∈ T := by
          rcases List.mem_cons.1 h with h | h
          · exact absurd h.symm hji
          · exact h
        have := ih b i hi hn.2 hb
        simp only [List.filter_cons, mset_ne _ hji]
        split
        · simp only [List.length_cons]; omega
        · exact this
  have hbase : base = mlit base T fun _ => false := by
    have : ∀ (T : List Nat) (base : Array Bool), base = mlit base T fun _ => false := by
      intro T
      induction T with
      | nil => intro _; rfl
      | cons i T ih => intro base; exact ih base
    exact this T base
  refine wpAny_inv ds v0 (fun fuel listed v w => ∃ b : Msk, (∀ i, i ∉ T → b i = false) ∧ (∀ i ∈ T, b i = true → ∀ j ∈ D i, b j = true) ∧ listed = mlit base T b ∧ fuel = n + (T.filter fun j => !b j).length ∧ J b v w) ha ⟨fun _ => false, fun _ _ => rfl, fun _ _ h => (by cases h), hbase, by rw [hm, show (T.filter fun j => !(fun _ => false : Msk) j) = T from List.filter_eq_self.2 fun _ _ => rfl], hst⟩ ?_
  rintro fuel listed v w ⟨b, hout, hdep, rfl, hf, hJ⟩
  have ht := mall_at T (fun _ => false) b hpos hout (fun _ h => by cases h)
  unfold mtest at ht
  have h0 : (T.all fun i => !b i || (D i).all b) = true := by
    rw [List.all_eq_true]
    intro i hi
    cases hb : b i with
    | false => rfl
    | true => rw [Bool.not_true, Bool.false_or, List.all_eq_true]; exact hdep i hi hb
  rw [h0, Bool.not_true, Bool.false_or] at ht
  cases hall : T.all b with
  | true =>
    have hall' := List.all_eq_true.1 hall
    left
    have e1 : mlit base T b = mlit base T fun _ => true := by
      have : ∀ (T : List Nat) (base : Array Bool), (∀ i ∈ T, b i = true) → mlit base T b = mlit base T fun _ => true := by
        intro T
        induction T with
        | nil => intro _ _; rfl
        | cons i T ih =>
          intro base h
          have := ih (base.setIfInBounds i true) fun j hj => h j (List.mem_cons_of_mem _ hj)
          simp only [mlit, List.foldl_cons, h i List.mem_cons_self, if_true] at this ⊢
          exact this
      exact this T base hall'
    have e2 : (T.filter fun j => !b j) = [] := List.filter_eq_nil_iff.2 fun j hj => by simp [hall' j hj]
    rw [e2] at hf
    subst hf
    rw [e1]
    exact hend b v w hall' hJ
  | false =>
    rw [hall, Bool.false_or, Bool.and_eq_true, List.all_eq_true] at ht
    obtain ⟨h1, h2⟩ := ht
    have hpos' : 0 < (T.filter fun j => !b j).length := by
      cases hx : T.filter fun j => !b j with
      | cons _ _ => simp
      | nil =>
        have h3 := List.filter_eq_nil_iff.1 hx
        have h4 : T.all b = true := List.all_eq_true.2 fun j hj => by simpa using h3 j hj
        rw [hall] at h4
        cases h4
    refine .inr ⟨fuel - 1, by omega, fun h => by rw [h] at h1; simp at h1, fun i hi => ?_⟩
    have h3 := h2 i hi
    simp only [Bool.and_eq_true, Bool.not_eq_true', List.contains_iff_mem, List.all_eq_true] at h3
    obtain ⟨⟨hiT, hbi⟩, hD⟩ := h3
    have hc := hcnt T b i hiT hnd hbi
    refine wpOp_mono ?_ (hs i hiT b v w hbi hD hJ)
    rintro a' w' ⟨v', e, h⟩
    refine ⟨v', e, mset b i, fun j hj => ?_, fun j hj hb k hk => ?_, mlit_set (base := base) T base i hiT, by omega, h⟩
    · rw [mset_ne _ (fun e : j = i => hj (by rw [e]; exact hiT))]; exact hout j hj
    · by_cases hki : k = i
      · subst hki; exact mset_at _ _
      · rw [mset_ne _ hki]
        by_cases hji : j = i
        · subst hji; exact hD k hk
        · rw [mset_ne _ hji] at hb; exact hdep j hj hb k hk
end
end Go.Proofs.YtdefjnefkdemiaaGreatDoor
/- The region that appends a place to one list and an offer to another, told by which of its operations have come up. -/
set_option linter.unusedVariables false
namespace Go.Proofs.YtdefjnefkdemiaaGreatDoor
open Go.RowKit

/-- the block of a row holds elements of the row's type -/
theorem own_type {w : World} {b C n : Nat} {t : TypeId} {v : Value} {xs : List Value} (h : w.ownsRow b t C v n xs) {g : Nat} (hg : v.ownBlock = some g) {cs : Array Value} {t' : TypeId} {fr : Nat × Nat} (hb : w.heap[g]? = some (.cells cs t' fr)) : t' = t := by
  rcases h.2 with ⟨h0, _⟩ | ⟨g1, cap, cur, h0, _, hc, _⟩
  · rw [h0] at hg; cases hg
  · rw [h0] at hg
    obtain rfl := Option.some.inj hg
    rw [hb] at hc
    injection hc with hc
    injection hc with _ e2 _
structure JB (b0 : Nat) (wr : World) (x : Of) (ix : Nat) (vc vo : Value) (m : Nat) (lc lo : List Value) (s2 s3 s8 s9 : Nat) (b : Msk) (v : Nat → Value) (w : World) : Prop where
  low : Below b0 wr w
  sz : b0 ≤ w.heap.size
  p0 : b 3 = false → Owns b0 w [⟨3, 1, vc, m, lc⟩, ⟨37, 12, vo, m, lo⟩]
  p2 : b 2 = true → b 3 = false → ∃ h, v s2 = .slice (some ⟨h, 0, none⟩) 1 1 ∧ w.heap[h]? = some (.cells #[.int .i64 (ix : Int)] 3 (0, 0))
  p3 : b 3 = true → ∃ g cap, v s3 = .slice (some ⟨g, 0, none⟩) (m + 1) cap ∧ Owns b0 w [⟨3, 1, .slice (some ⟨g, 0, none⟩) (m + 1) cap, m + 1, lc ++ [.int .i64 (ix : Int)]⟩, ⟨37, 12, vo, m, lo⟩]
  p8 : b 8 = true → v s8 = .agg x.cells.toArray
  p9 : b 9 = true → ∃ h, v s9 = .slice (some ⟨h, 0, none⟩) 1 1 ∧ w.heap[h]? = some (.cells x.cells.toArray 37 (0, 0))
section
variable {b0 : Nat} {wr w w' : World} {x : Of} {ix m s2 s3 s8 s9 : Nat} {vc vo : Value} {lc lo : List Value} {b b' : Msk} {v v' : Nat → Value}
theorem block_kept {row : Option Nat} (k : w.grownBy w' row) {h : Nat} {o : Obj} (hb : w.heap[h]? = some o) (hn : row ≠ some h) : w'.heap[h]? = some o :=
  (k.block h (Array.getElem?_eq_some_iff.1 hb).1 (fun e => hn e.symm)).trans hb
theorem JB.step (h : JB b0 wr x ix vc vo m lc lo s2 s3 s8 s9 b v w) (k : w.grownBy w' none) (e3 : b' 3 = b 3) (v3 : v' s3 = v s3)
    (q2 : b' 2 = true → (b 2 = true ∧ v' s2 = v s2) ∨ ∃ g, v' s2 = .slice (some ⟨g, 0, none⟩) 1 1 ∧ w'.heap[g]? = some (.cells #[.int .i64 (ix : Int)] 3 (0, 0)))
    (q8 : b' 8 = true → v' s8 = .agg x.cells.toArray)
    (q9 : b' 9 = true → (b 9 = true ∧ v' s9 = v s9) ∨ ∃ g, v' s9 = .slice (some ⟨g, 0, none⟩) 1 1 ∧ w'.heap[g]? = some (.cells x.cells.toArray 37 (0, 0))) :
    JB b0 wr x ix vc vo m lc lo s2 s3 s8 s9 b' v' w' := by
  refine ⟨h.low.grown k h.sz (fun _ e => by cases e), Nat.le_trans h.sz k.size, fun e => (h.p0 (by rw [← e3]; exact e)).step k, fun e e' => ?_, fun e => ?_, q8, fun e => ?_⟩
  · rcases q2 e with ⟨e1, ev⟩ | h'
    · obtain ⟨g, h1, h2⟩ := h.p2 e1 (by rw [← e3]; exact e')
      exact ⟨g, ev.trans h1, block_kept k h2 (by simp)⟩
    · exact h'
  · obtain ⟨g, cap, h1, h2⟩ := h.p3 (by rw [← e3]; exact e)
    exact ⟨g, cap, v3.trans h1, h2.step k⟩
  · rcases q9 e with ⟨e1, ev⟩ | h'
    · obtain ⟨g, h1, h2⟩ := h.p9 e1
      exact ⟨g, ev.trans h1, block_kept k h2 (by simp)⟩
    · exact h'
theorem JB.app {g cap : Nat} (h : JB b0 wr x ix vc vo m lc lo s2 s3 s8 s9 b v w) (hb : b 3 = false) (own : w'.ownsRow b0 3 1 (.slice (some ⟨g, 0, none⟩) (m + 1) cap) (m + 1) (lc ++ [.int .i64 (ix : Int)])) (k : w.grownBy w' vc.ownBlock)
    (hat : vc.ownBlock = some g ∨ g = w.heap.size) (hb3 : b' 3 = true) (e8 : b' 8 = b 8) (e9 : b' 9 = b 9) (v3 : v' s3 = .slice (some ⟨g, 0, none⟩) (m + 1) cap) (v8 : v' s8 = v s8) (v9 : v' s9 = v s9) :
    JB b0 wr x ix vc vo m lc lo s2 s3 s8 s9 b' v' w' := by
  have hO := h.p0 hb
  have hown := hO.at_ [] [⟨37, 12, vo, m, lo⟩] ⟨3, 1, vc, m, lc⟩
  have X := Owns.app (H := w.heap.size) [] [⟨37, 12, vo, m, lo⟩] ⟨3, 1, vc, m, lc⟩ hO (grown_refl _ _) h.sz own k hat (fun g hg => (hown.lt g hg).2)
  refine ⟨h.low.grown k h.sz (fun g hg => (hown.lt g hg).1), Nat.le_trans h.sz k.size, fun e => (by rw [hb3] at e; cases e), fun _ e => (by rw [hb3] at e; cases e), fun _ => ⟨g, cap, v3, X.1⟩, fun e => v8.trans (h.p8 (by rw [← e8]; exact e)), fun e => ?_⟩
  obtain ⟨g9, h1, h2⟩ := h.p9 (by rw [← e9]; exact e)
  exact ⟨g9, v9.trans h1, block_kept k h2 (fun e => absurd (show (37 : Nat) = 3 from own_type hown e h2) (by decide))⟩
end
end Go.Proofs.YtdefjnefkdemiaaGreatDoor
