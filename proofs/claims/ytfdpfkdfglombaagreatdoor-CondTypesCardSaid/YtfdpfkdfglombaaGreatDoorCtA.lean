/- Fields of records and schemas of events, as plain lists: what is wrong with them, and with a condition for them. -/
import Derived.Test.YtfdpfkdfglombaaGreatDoorCnO
import Derived.WalkLawsBesides
import Derived.Deep.DeepCutAuto
import Derived.Test.YtfdpfkdfglombaaGreatDoorSgV
import Derived.Test.YtfdpfkdfglombaaGreatDoorCkMk
import Derived.Test.YtfdpfkdfglombaaGreatDoorSgK
import Derived.Deep.QuietTactic
import Derived.BigQuiet
import Derived.Test.YtfdpfkdfglombaaGreatDoorSgL
import Derived.Test.YtfdpfkdfglombaaGreatDoorSgM
set_option linter.unusedVariables false
namespace Go.Proofs.YtfdpfkdfglombaaGreatDoor
open Go.RowKit

/-- a field that records or events have -/
structure Nn where
  name : ByteArray
  kind : Int
  must : Bool
instance : Inhabited Nn := ⟨⟨⟨#[]⟩, 0, false⟩⟩
def Nn.cells (x : Nn) : List Value := [.string x.name, .int .i64 x.kind, .bool x.must]
theorem Nn.len (x : Nn) : x.cells.length = 3 := rfl
def Nn.ok (x : Nn) : Prop := x.name.size ≤ 1000 ∧ i64B x.kind
/-- a schema, and where its fields lie -/
structure Sm where
  name : ByteArray
  na : Option Addr
  nc : Nat
  needs : List Nn
instance : Inhabited Sm := ⟨⟨⟨#[]⟩, none, 0, []⟩⟩
def Sm.cells (x : Sm) : List Value := [.string x.name, .slice x.na x.needs.length x.nc]
theorem Sm.len (x : Sm) : x.cells.length = 2 := rfl
/-- fields lie in memory -/
structure NnL (w : World) (a : Option Addr) (l : List Nn) : Prop where
  row : RAt w a 3 Nn.cells l
  ok : ∀ x ∈ l, x.ok
  len : l.length ≤ 1000
/-- schemas lie in memory -/
structure SmL (w : World) (a : Option Addr) (l : List Sm) : Prop where
  row : RAt w a 2 Sm.cells l
  ok : ∀ x ∈ l, x.name.size ≤ 1000 ∧ NnL w x.na x.needs ∧ x.needs.length ≤ x.nc ∧ x.nc ≤ maxLen
  len : l.length ≤ 1000
theorem NnL.below {w w' : World} {a : Option Addr} {l : List Nn} (h : NnL w a l) (k : Below w.heap.size w w') : NnL w' a l := ⟨h.row.below k, h.ok, h.len⟩
theorem SmL.below {w w' : World} {a : Option Addr} {l : List Sm} (h : SmL w a l) (k : Below w.heap.size w w') : SmL w' a l := ⟨h.row.below k, fun x hx => ⟨(h.ok x hx).1, (h.ok x hx).2.1.below k, (h.ok x hx).2.2⟩, h.len⟩
theorem NnL.alloc {w : World} {a : Option Addr} {l : List Nn} (h : NnL w a l) (o : Obj) : NnL (w.alloc o) a l := h.below ((Below.refl _ _).alloc (Nat.le_refl _) o)
theorem SmL.alloc {w : World} {a : Option Addr} {l : List Sm} (h : SmL w a l) (o : Obj) : SmL (w.alloc o) a l := h.below ((Below.refl _ _).alloc (Nat.le_refl _) o)

/-- the order of strings, as the walk spells it -/
def leN (a b : ByteArray) : Bool := Op.bytesLess a.toList b.toList || a.toList == b.toList
def eqN (a b : ByteArray) : Bool := a.toList == b.toList
theorem eqN_iff {a b : ByteArray} : eqN a b = true ↔ a = b := by
  unfold eqN
  rw [beq_iff_eq]
  exact ⟨toList_inj, fun e => by rw [e]⟩
theorem leN_not {a b : ByteArray} (h : leN a b = false) : cmpB b a < 0 := by
  unfold leN at h
  rw [Bool.or_eq_false_iff] at h
  obtain ⟨h1, h2⟩ := h
  rw [less_lex, decide_eq_false_iff_not] at h1
  have h3 : ¬ cmpB a b < 0 := h1
  have h4 : ¬ cmpB a b = 0 := fun e => by
    rw [cmpB_tot.eq] at e
    rw [e] at h2
    simp at h2
  have h5 : 0 < cmpB a b := by omega
  exact (cmpB_tot.anti b a).2 h5
theorem leN_nil {a : ByteArray} (h : a.size ≠ 0) : leN a ⟨#[]⟩ = false := by
  unfold leN
  simp only [Lib.toList_data]
  obtain ⟨⟨l⟩⟩ := a
  cases l with
  | nil => exact absurd rfl h
  | cons x r => rfl
/-- what is wrong with a field: its name, its kind, its place behind the one before it -/
def ndX (b1 b2 b3 : Bool) : Int := if b1 = false then 5 else if b2 = false then 4 else if b3 = true then 7 else 0
def nnE (l : List Nn) (i : Nat) : Int :=
  ndX (keyB (l.getD i default).name) (decide (1 ≤ (l.getD i default).kind ∧ (l.getD i default).kind ≤ 4)) (decide (0 < i) && leN (l.getD i default).name (l.getD (i - 1) default).name)
def goE (f : Nat → Int) : Nat → Nat → Int
  | 0, _ => 0
  | m + 1, i => if f i = 0 then goE f m (i + 1) else f i
theorem goE_step (f : Nat → Int) (n k : Nat) (h : k < n) : goE f (n - k) k = if f k = 0 then goE f (n - (k + 1)) (k + 1) else f k := by
  rw [show n - k = (n - (k + 1)) + 1 by omega]; rfl
theorem goE_zero (f : Nat → Int) : ∀ (m i : Nat), goE f m i = 0 → ∀ j, i ≤ j → j < i + m → f j = 0
  | 0, i, _, j, h1, h2 => by omega
  | m + 1, i, h, j, h1, h2 => by
    unfold goE at h
    by_cases h0 : f i = 0
    · rw [if_pos h0] at h
      rcases Nat.eq_or_lt_of_le h1 with rfl | h3
      · exact h0
      · exact goE_zero f m (i + 1) h j h3 (by omega)
    · rw [if_neg h0] at h; exact absurd h h0
def nnsE (l : List Nn) : Int := if 30 < l.length then 2 else goE (nnE l) l.length 0
def smE (l : List Sm) (i : Nat) : Int :=
  if keyB (l.getD i default).name = false then 5 else
  if (decide (0 < i) && leN (l.getD i default).name (l.getD (i - 1) default).name) = true then 7 else nnsE (l.getD i default).needs
def smsE (l : List Sm) : Int := if 60 < l.length then 2 else goE (smE l) l.length 0
theorem sorted_of {α : Type} (g : α → ByteArray) (l : List α) (h : ∀ i (hi : i + 1 < l.length), cmpB (g l[i]) (g l[i + 1]) < 0) : l.Pairwise fun x y => cmpB (g x) (g y) < 0 := by
  rw [List.pairwise_iff_getElem]
  have key : ∀ (k i : Nat) (h1 : i + k + 1 < l.length), cmpB (g (l[i]'(by omega))) (g l[i + k + 1]) < 0 := by
    intro k
    induction k with
    | zero => intro i h1; exact h i h1
    | succ k ih => intro i h1; exact cmpB_tot.tr _ _ _ (ih i (by omega)) (h (i + k + 1) h1)
  intro i j hi hj hij
  have := key (j - i - 1) i (by omega)
  simp only [show i + (j - i - 1) + 1 = j by omega] at this
  exact this
theorem nns_ok {l : List Nn} (h : nnsE l = 0) : (∀ x ∈ l, 1 ≤ x.kind ∧ x.kind ≤ 4) ∧ l.Pairwise fun x y => cmpB x.name y.name < 0 := by
  unfold nnsE at h
  split at h
  · cases h
  have h0 := goE_zero _ _ _ h
  have h1 : ∀ i (hi : i < l.length), (1 ≤ l[i].kind ∧ l[i].kind ≤ 4) ∧ (0 < i → leN l[i].name (l.getD (i - 1) default).name = false) := by
    intro i hi
    have h2 := h0 i (Nat.zero_le _) (by omega)
    unfold nnE ndX at h2
    have e : l.getD i default = l[i] := by rw [List.getD_eq_getElem?_getD, List.getElem?_eq_getElem hi]; rfl
    rw [e] at h2
    split at h2
    · cases h2
    split at h2
    · cases h2
    split at h2
    · cases h2
    rename_i _ h4 h5
    rw [Bool.not_eq_false, decide_eq_true_eq] at h4
    refine ⟨h4, fun hp => ?_⟩
    rw [decide_eq_true hp, Bool.true_and, Bool.not_eq_true] at h5
    exact h5
  refine ⟨fun x hx => ?_, sorted_of Nn.name l fun i hi => ?_⟩
  · obtain ⟨i, hi, rfl⟩ := List.getElem_of_mem hx
    exact (h1 i hi).1
  · have := (h1 (i + 1) hi).2 (by omega)
    rw [show i + 1 - 1 = i by omega, List.getD_eq_getElem?_getD, List.getElem?_eq_getElem (show i < l.length by omega)] at this
    exact leN_not this
theorem sms_ok {l : List Sm} (h : smsE l = 0) : (∀ x ∈ l, nnsE x.needs = 0) ∧ l.Pairwise fun x y => cmpB x.name y.name < 0 := by
  unfold smsE at h
  split at h
  · cases h
  have h0 := goE_zero _ _ _ h
  have h1 : ∀ i (hi : i < l.length), nnsE l[i].needs = 0 ∧ (0 < i → leN l[i].name (l.getD (i - 1) default).name = false) := by
    intro i hi
    have h2 := h0 i (Nat.zero_le _) (by omega)
    unfold smE at h2
    have e : l.getD i default = l[i] := by rw [List.getD_eq_getElem?_getD, List.getElem?_eq_getElem hi]; rfl
    rw [e] at h2
    split at h2
    · cases h2
    split at h2
    · cases h2
    rename_i _ h5
    refine ⟨h2, fun hp => ?_⟩
    rw [decide_eq_true hp, Bool.true_and, Bool.not_eq_true] at h5
    exact h5
  refine ⟨fun x hx => ?_, sorted_of Sm.name l fun i hi => ?_⟩
  · obtain ⟨i, hi, rfl⟩ := List.getElem_of_mem hx
    exact (h1 i hi).1
  · have := (h1 (i + 1) hi).2 (by omega)
    rw [show i + 1 - 1 = i by omega, List.getD_eq_getElem?_getD, List.getElem?_eq_getElem (show i < l.length by omega)] at this
    exact leN_not this

/-- the first with a name -/
def fndG {α : Type} (g : α → ByteArray) : List α → ByteArray → Option α
  | [], _ => none
  | x :: r, s => if eqN (g x) s = true then some x else fndG g r s
section
variable {α : Type} {g : α → ByteArray}
theorem fndG_drop (l : List α) (s : ByteArray) (k : Nat) (h : k < l.length) : fndG g (l.drop k) s = if eqN (g l[k]) s = true then some l[k] else fndG g (l.drop (k + 1)) s := by
  rw [List.drop_eq_getElem_cons h]; rfl
theorem fndG_none : ∀ {l : List α} {s : ByteArray}, (∀ x ∈ l, g x ≠ s) → fndG g l s = none
  | [], _, _ => rfl
  | x :: r, s, h => by
    unfold fndG
    rw [if_neg (fun e => h x (by simp) (eqN_iff.1 e))]
    exact fndG_none fun y hy => h y (by simp [hy])
theorem fndG_mem : ∀ {l : List α} {s : ByteArray} {x : α}, fndG g l s = some x → x ∈ l ∧ g x = s
  | [], _, _, h => by cases h
  | y :: r, s, x, h => by
    unfold fndG at h
    by_cases e : eqN (g y) s = true
    · rw [if_pos e] at h
      injection h with h
      subst h
      exact ⟨by simp, eqN_iff.1 e⟩
    · rw [if_neg e] at h
      obtain ⟨h1, h2⟩ := fndG_mem h
      exact ⟨by simp [h1], h2⟩
theorem fndG_at : ∀ {l : List α} {s : ByteArray} (i : Nat) (hi : i < l.length), (∀ t (ht : t < l.length), t < i → g l[t] ≠ s) → g l[i] = s → fndG g l s = some l[i]
  | [], _, i, hi, _, _ => by simp at hi
  | x :: r, s, 0, hi, _, h => by
    unfold fndG
    rw [if_pos (show eqN (g x) s = true from eqN_iff.2 h)]
    rfl
  | x :: r, s, i + 1, hi, h0, h => by
    unfold fndG
    rw [if_neg (fun e => h0 0 (by simp) (by omega) (eqN_iff.1 e))]
    exact fndG_at i (by simpa using hi) (fun t ht hti => by
      have := h0 (t + 1) (by simpa using ht) (by omega)
      simpa using this) (by simpa using h)
/-- what a search by halves knows -/
def LoG (g : α → ByteArray) (o : List α) (k : ByteArray) (i : Nat) : Prop := ∀ t (ht : t < o.length), t < i → cmpB (g o[t]) k < 0
def HiG (g : α → ByteArray) (o : List α) (k : ByteArray) (j : Nat) : Prop := ∀ t (ht : t < o.length), j ≤ t → ¬ cmpB (g o[t]) k < 0
theorem LoG.half {o : List α} {k : ByteArray} {m : Nat} (hs : o.Pairwise fun x y => cmpB (g x) (g y) < 0) (hm : m < o.length) (h : cmpB (g o[m]) k < 0) : LoG g o k (m + 1) := by
  intro t ht htm
  rcases Nat.lt_or_ge t m with h1 | h1
  · exact cmpB_tot.tr _ _ _ (List.pairwise_iff_getElem.1 hs t m ht hm h1) h
  · have : t = m := by omega
    subst this
    exact h
theorem HiG.half {o : List α} {k : ByteArray} {m : Nat} (hs : o.Pairwise fun x y => cmpB (g x) (g y) < 0) (hm : m < o.length) (h : ¬ cmpB (g o[m]) k < 0) : HiG g o k m := by
  intro t ht htm h2
  rcases Nat.lt_or_ge m t with h1 | h1
  · exact h (cmpB_tot.tr _ _ _ (List.pairwise_iff_getElem.1 hs m t hm ht h1) h2)
  · have : t = m := by omega
    subst this
    exact h h2
theorem fnd_yes {o : List α} {k : ByteArray} {i : Nat} (h1 : LoG g o k i) (hi : i < o.length) (h : cmpB (g o[i]) k = 0) : fndG g o k = some o[i] :=
  fndG_at i hi (fun t ht hti e => by
    have := h1 t ht hti
    rw [e, cmpB_self] at this
    omega) ((cmpB_tot.eq _ _).1 h)
theorem fnd_no {o : List α} {k : ByteArray} {i : Nat} (hs : o.Pairwise fun x y => cmpB (g x) (g y) < 0) (h1 : LoG g o k i) (h2 : HiG g o k i) (h : ∀ hi : i < o.length, cmpB (g o[i]) k ≠ 0) : fndG g o k = none :=
  fndG_none fun x hx e => by
    obtain ⟨t, ht, rfl⟩ := List.getElem_of_mem hx
    rcases Nat.lt_or_ge t i with h3 | h3
    · have := h1 t ht h3
      rw [e, cmpB_self] at this
      omega
    · have h4 : i < o.length := by omega
      rcases Nat.eq_or_lt_of_le h3 with h5 | h5
      · subst h5
        exact h h4 (by rw [e, cmpB_self])
      · have h6 := List.pairwise_iff_getElem.1 hs i t h4 ht h5
        rw [e] at h6
        exact h2 i h4 (Nat.le_refl _) h6
end
/-- the kind of a field; 0: there is none -/
def kdO : Option Nn → Int
  | none => 0
  | some x => x.kind
def kdE (l : List Nn) (s : ByteArray) : Int := kdO (fndG Nn.name l s)
/-- the fields are right -/
def RgN (l : List Nn) : Prop := (∀ x ∈ l, 1 ≤ x.kind ∧ x.kind ≤ 4) ∧ l.Pairwise fun x y => cmpB x.name y.name < 0
def RgS (l : List Sm) : Prop := (∀ x ∈ l, RgN x.needs) ∧ l.Pairwise fun x y => cmpB x.name y.name < 0
theorem rgN_of {l : List Nn} (h : nnsE l = 0) : RgN l := nns_ok h
theorem rgS_of {l : List Sm} (h : smsE l = 0) : RgS l := ⟨fun x hx => nns_ok ((sms_ok h).1 x hx), (sms_ok h).2⟩
theorem kdE_zero {l : List Nn} {s : ByteArray} (h : RgN l) : kdE l s = 0 ↔ fndG Nn.name l s = none := by
  unfold kdE
  cases e : fndG Nn.name l s with
  | none => simp [kdO]
  | some x =>
    have := h.1 x (fndG_mem e).1
    simp only [kdO, reduceCtorEq, iff_false]
    omega
/-- what is wrong with a comparison of a field of events -/
def wtE (l : List Nn) (x : Wh) : Int := if kdE l x.field = 0 then 8 else if kdE l x.field ≠ x.val.kind then 10 else 0
/-- a test of events -/
def evE (l : List Sm) (n : Nd) : Int :=
  match fndG Sm.name l n.name with
  | none => 8
  | some s =>
    if n.kind = 14 ∧ fndG Sm.name l n.field = none then 8 else
    if n.kind = 12 ∧ kdE s.needs n.field = 0 then 8 else
    if n.kind = 12 ∧ kdE s.needs n.field = 1 then 10 else fstE (wtE s.needs) n.whs
/-- a test of a field of the record -/
def rcE (l : List Nn) (n : Nd) : Int := if kdE l n.name = 0 then 8 else if n.vals.any (fun v => !decide (v.kind = kdE l n.name)) = true then 10 else 0
/-- a condition without those in it -/
def suE (f : List Nn) (l : List Sm) (n : Nd) : Int := if 6 ≤ n.kind ∧ n.kind ≤ 10 then rcE f n else if 11 ≤ n.kind ∧ n.kind ≤ 14 then evE l n else 0
/-- the first error, each before those in it -/
def wkT (f : Nd → Int) : Nat → Cn → Int
  | 0, _ => 0
  | d + 1, c => if f c.nd ≠ 0 then f c.nd else fstE (wkT f d) c.args
/-- the whole -/
def tyE (f : List Nn) (l : List Sm) (d : Nat) (c : Cn) : Int := if cnE d c ≠ 0 then cnE d c else if nnsE f ≠ 0 then nnsE f else if smsE l ≠ 0 then smsE l else wkT (suE f l) d c
end Go.Proofs.YtfdpfkdfglombaaGreatDoor
/- slices.BinarySearchFunc over fields and over schemas, by their names; segment.need, segment.schema (printed by gen_tysr.py). -/
set_option linter.unusedVariables false
namespace Go.Proofs.YtfdpfkdfglombaaGreatDoor
open Go.RowKit

theorem cmpB_ifT (a b : ByteArray) : cmpB a b = if Op.bytesLess a.toList b.toList = true then -1 else if (a.toList == b.toList) = true then 0 else 1 := by
  have h1 := lexU_val a.toList b.toList
  have h2 := cmpB_tot.eq a b
  rw [less_lex]
  simp only [decide_eq_true_eq, beq_iff_eq]
  unfold cmpB at *
  by_cases h : a.toList = b.toList
  · have h3 := h2.2 (toList_inj h)
    rw [if_neg (by omega), if_pos h, h3]
  · have h3 : ¬ lexC cmpU a.toList b.toList = 0 := fun e => h (by rw [h2.1 e])
    rw [if_neg h]
    split <;> omega
theorem isNaN_strT (s : ByteArray) (w : World) : Calls Tryz.prog 196 #[.string s] w fun e w' => e = .returned (.bool false) ∧ w = w' := by
  go_enter Tryz.func196, Tryz.ntmps196
  go_wp2
  go_ret
  exact ⟨rfl, rfl⟩
theorem compare_strT (x y : ByteArray) (w : World) : Calls Tryz.prog 151 #[.string x, .string y] w fun e w' => e = .returned (.int .i64 (cmpB x y)) ∧ w = w' := by
  rw [cmpB_ifT]
  obtain ⟨b1, h1⟩ : ∃ b, Op.bytesLess x.toList y.toList = b := ⟨_, rfl⟩
  obtain ⟨b3, h3⟩ : ∃ b, (x.toList == y.toList) = b := ⟨_, rfl⟩
  rw [h1, h3]
  cases b1 <;> cases b3 <;> (go_enter Tryz.func151, Tryz.ntmps151; go_wp2_with (go_at_call 196; refine (isNaN_strT _ _).mono ?_; rintro e w' ⟨rfl, rfl⟩); go_ret; exact ⟨rfl, rfl⟩)
theorem RAt.at3n {w : World} {a : Option Addr} {l : List Nn} (h : RAt w a 3 Nn.cells l) {j : Nat} (hj : j < l.length) :
    ∃ p off, a = some ⟨p, off, none⟩ ∧ p < w.heap.size ∧ w.cell? ⟨p, off + j * 3, none⟩ = some (.string l[j].name) ∧ w.cell? ⟨p, off + j * 3 + 1, none⟩ = some (.int .i64 l[j].kind) ∧ w.cell? ⟨p, off + j * 3 + 2, none⟩ = some (.bool l[j].must) := by
  obtain ⟨p, off, h1, h2, h3⟩ := h j hj
  exact ⟨p, off, h1, h2, h3 0 _ rfl, h3 1 _ rfl, h3 2 _ rfl⟩
theorem RAt.at2s {w : World} {a : Option Addr} {l : List Sm} (h : RAt w a 2 Sm.cells l) {j : Nat} (hj : j < l.length) :
    ∃ p off, a = some ⟨p, off, none⟩ ∧ p < w.heap.size ∧ w.cell? ⟨p, off + j * 2, none⟩ = some (.string l[j].name) ∧ w.cell? ⟨p, off + j * 2 + 1, none⟩ = some (.slice l[j].na l[j].needs.length l[j].nc) := by
  obtain ⟨p, off, h1, h2, h3⟩ := h j hj
  exact ⟨p, off, h1, h2, h3 0 _ rfl, h3 1 _ rfl⟩
/-- the one at i has the name -/
def YesAt {α : Type} (g : α → ByteArray) (o : List α) (k : ByteArray) (i : Nat) : Prop := ∃ h : i < o.length, fndG g o k = some o[i]
/-- what a search by halves gives -/
def SchO {α : Type} (g : α → ByteArray) (o : List α) (k : ByteArray) (w : World) (e : Ending) (w' : World) : Prop :=
  (∃ (i : Nat) (b : Bool), e = .returned (.tuple #[.int .i64 i, .bool b]) ∧ ((b = true ∧ ∃ h : i < o.length, fndG g o k = some o[i]) ∨ (b = false ∧ fndG g o k = none))) ∧ Below w.heap.size w w'
theorem SchO.yes {α : Type} {g : α → ByteArray} {o : List α} {k : ByteArray} {w w' : World} {i : Nat} (h : i < o.length) (hf : fndG g o k = some o[i]) (hb : Below w.heap.size w w') : SchO g o k w (.returned (.tuple #[.int .i64 i, .bool true])) w' := ⟨⟨i, true, rfl, .inl ⟨rfl, h, hf⟩⟩, hb⟩
theorem SchO.no {α : Type} {g : α → ByteArray} {o : List α} {k : ByteArray} {w w' : World} {i : Nat} (hf : fndG g o k = none) (hb : Below w.heap.size w w') : SchO g o k w (.returned (.tuple #[.int .i64 i, .bool false])) w' := ⟨⟨i, false, rfl, .inr ⟨rfl, hf⟩⟩, hb⟩

theorem need1_any (x : Nn) (k : ByteArray) (w : World) :
    Calls Tryz.prog 150 #[.agg #[.string x.name, .int .i64 x.kind, .bool x.must], .string k] w fun e w' => e = .returned (.int .i64 (cmpB x.name k)) ∧ Below w.heap.size w w' := by
  obtain ⟨name, kind, must⟩ := x
  simp only
  have C := Lib.hid (fun w => compare_strT name k w)
  generalize cmpB name k = R at *
  go_enter Tryz.func150, Tryz.ntmps150
  go_wp2_with fail
  with_reducible refine (C.out _).mono ?_
  rintro e w1 ⟨rfl, rfl⟩
  go_wp2_with fail
  go_ret
  exact ⟨rfl, (Below.refl _ _).alloc (Nat.le_refl _) _⟩

set_option maxRecDepth 100000 in
set_option maxHeartbeats 8000000 in
theorem needSearch_any (a : Option Addr) (o : List Nn) (n c : Nat) (k : ByteArray) (w : World) (hn : o.length = n) (hn1 : n ≤ 1000) (hI : RAt w a 3 Nn.cells o) (hs : o.Pairwise fun x y => cmpB x.name y.name < 0) :
    Calls Tryz.prog 149 #[.slice a n c, .string k, .func (.func 150) #[] #[]] w (SchO Nn.name o k w) := by
  have HN := Lib.hid hn
  have HI := Lib.hid hI
  have HS := Lib.hid hs
  clear hn hI hs
  go_enter Tryz.func149, Tryz.ntmps149
  go_wp2_with fail
  go_loopw [9, 10, 11] (fun u v _ wr => ∃ (i j : Nat), i ≤ j ∧ j ≤ n ∧ u = .int .i64 i ∧ v = .int .i64 j ∧ Below w.heap.size w wr ∧ Hid (LoG Nn.name o k i) ∧ Hid (HiG Nn.name o k j)) (fun u v _ _ => (intOf v).toNat - (intOf u).toNat)
  case atStart => exact ⟨0, n, Nat.zero_le _, Nat.le_refl _, rfl, rfl, Below.refl _ _, Lib.hid (fun t ht h => by omega), Lib.hid (fun t ht h => by have := HN.out; omega)⟩
  case round =>
    obtain ⟨i, j, hij, hjn, rfl, rfl, hB, H1, H2⟩ := hrel
    by_cases hlt : i < j
    · obtain ⟨m, hm⟩ : ∃ m, (i + j) / 2 = m := ⟨_, rfl⟩
      have hmi : i ≤ m := by omega
      have hmj : m < j := by omega
      have hmn : m < n := by omega
      have hkl : m < o.length := by have := HN.out; omega
      have hq : ((i : Int) + (j : Int)) / 2 = (m : Int) := by omega
      obtain ⟨p, off, rfl, hp, c0, c1, c2⟩ := (HI.out.below hB).at3n hkl
      have C := Lib.hid (fun w => need1_any o[m] k w)
      have HLO := Lib.hid (fun h : cmpB o[m].name k < 0 => LoG.half HS.out hkl h)
      have HHI := Lib.hid (fun h : ¬ cmpB o[m].name k < 0 => HiG.half HS.out hkl h)
      generalize o[m] = x at *
      obtain ⟨name, kind, must⟩ := x
      simp only at *
      generalize cmpB name k = v at *
      clear hm hkl
      by_cases hv : v < 0
      · have HLO1 := Lib.hid (HLO.out hv)
        clear HLO HHI
        go_wp2_with fail
        clear hq
        with_reducible refine (C.out _).mono ?_
        rintro e w1 ⟨rfl, b1⟩
        have HB1 := Lib.hid (hB.trans (b1.mono hB.size))
        go_wp2_with fail
        go_roundw
        case rel => exact ⟨m + 1, j, by omega, by omega, by go_num, rfl, HB1.out, HLO1, H2⟩
        case measure => simp [intOf]; omega
      · have HHI1 := Lib.hid (HHI.out hv)
        clear HLO HHI
        go_wp2_with fail
        clear hq
        with_reducible refine (C.out _).mono ?_
        rintro e w1 ⟨rfl, b1⟩
        have HB1 := Lib.hid (hB.trans (b1.mono hB.size))
        go_wp2_with fail
        go_roundw
        case rel => exact ⟨i, m, by omega, by omega, rfl, rfl, HB1.out, H1, HHI1⟩
        case measure => simp [intOf]; omega
    · obtain rfl : i = j := by omega
      by_cases hin : i < n
      · have hkl : i < o.length := by have := HN.out; omega
        obtain ⟨p, off, rfl, hp, c0, c1, c2⟩ := (HI.out.below hB).at3n hkl
        have C := Lib.hid (fun w => need1_any o[i] k w)
        have HY := Lib.hid (fun h : cmpB o[i].name k = 0 => show YesAt Nn.name o k i from ⟨hkl, fnd_yes (g := Nn.name) H1.out hkl h⟩)
        have HF := Lib.hid (fun h : cmpB o[i].name k ≠ 0 => fnd_no (g := Nn.name) HS.out H1.out H2.out (fun _ => h))
        generalize o[i] = x at *
        clear hkl
        obtain ⟨name, kind, must⟩ := x
        simp only at c0 c1 c2 C HY HF
        generalize cmpB name k = v at *
        by_cases hv : v = 0
        · subst hv
          have HF1 := Lib.hid (HY.out rfl)
          clear HF HY
          go_wp2_with fail
          with_reducible refine (C.out _).mono ?_
          rintro e w1 ⟨rfl, b1⟩
          have HB1 := Lib.hid (hB.trans (b1.mono hB.size))
          go_wp2_with fail
          go_ret2
          exact SchO.yes HF1.out.1 HF1.out.2 HB1.out
        · have HF1 := Lib.hid (HF.out hv)
          have hA : (v == 0) = false := by simpa using hv
          clear HF HY
          go_wp2_with fail
          with_reducible refine (C.out _).mono ?_
          rintro e w1 ⟨rfl, b1⟩
          have HB1 := Lib.hid (hB.trans (b1.mono hB.size))
          go_wp2_with fail
          go_ret2
          exact SchO.no HF1.out HB1.out
      · have HF1 := Lib.hid (fnd_no (g := Nn.name) HS.out H1.out H2.out (fun h => absurd h (by have := HN.out; omega)))
        go_wp2_with fail
        go_ret2
        exact SchO.no HF1.out hB

theorem schema1_any (x : Sm) (k : ByteArray) (w : World) :
    Calls Tryz.prog 154 #[.agg #[.string x.name, .slice x.na x.needs.length x.nc], .string k] w fun e w' => e = .returned (.int .i64 (cmpB x.name k)) ∧ Below w.heap.size w w' := by
  obtain ⟨name, na, nc, needs⟩ := x
  simp only
  obtain ⟨nn, hnn⟩ : ∃ z, needs.length = z := ⟨_, rfl⟩
  rw [hnn]
  clear hnn
  have C := Lib.hid (fun w => compare_strT name k w)
  generalize cmpB name k = R at *
  go_enter Tryz.func154, Tryz.ntmps154
  go_wp2_with fail
  with_reducible refine (C.out _).mono ?_
  rintro e w1 ⟨rfl, rfl⟩
  go_wp2_with fail
  go_ret
  exact ⟨rfl, (Below.refl _ _).alloc (Nat.le_refl _) _⟩

set_option maxRecDepth 100000 in
set_option maxHeartbeats 8000000 in
theorem schemaSearch_any (a : Option Addr) (o : List Sm) (n c : Nat) (k : ByteArray) (w : World) (hn : o.length = n) (hn1 : n ≤ 1000) (hI : RAt w a 2 Sm.cells o) (hs : o.Pairwise fun x y => cmpB x.name y.name < 0) :
    Calls Tryz.prog 153 #[.slice a n c, .string k, .func (.func 154) #[] #[]] w (SchO Sm.name o k w) := by
  have HN := Lib.hid hn
  have HI := Lib.hid hI
  have HS := Lib.hid hs
  clear hn hI hs
  go_enter Tryz.func153, Tryz.ntmps153
  go_wp2_with fail
  go_loopw [9, 10, 11] (fun u v _ wr => ∃ (i j : Nat), i ≤ j ∧ j ≤ n ∧ u = .int .i64 i ∧ v = .int .i64 j ∧ Below w.heap.size w wr ∧ Hid (LoG Sm.name o k i) ∧ Hid (HiG Sm.name o k j)) (fun u v _ _ => (intOf v).toNat - (intOf u).toNat)
  case atStart => exact ⟨0, n, Nat.zero_le _, Nat.le_refl _, rfl, rfl, Below.refl _ _, Lib.hid (fun t ht h => by omega), Lib.hid (fun t ht h => by have := HN.out; omega)⟩
  case round =>
    obtain ⟨i, j, hij, hjn, rfl, rfl, hB, H1, H2⟩ := hrel
    by_cases hlt : i < j
    · obtain ⟨m, hm⟩ : ∃ m, (i + j) / 2 = m := ⟨_, rfl⟩
      have hmi : i ≤ m := by omega
      have hmj : m < j := by omega
      have hmn : m < n := by omega
      have hkl : m < o.length := by have := HN.out; omega
      have hq : ((i : Int) + (j : Int)) / 2 = (m : Int) := by omega
      obtain ⟨p, off, rfl, hp, c0, c1⟩ := (HI.out.below hB).at2s hkl
      have C := Lib.hid (fun w => schema1_any o[m] k w)
      have HLO := Lib.hid (fun h : cmpB o[m].name k < 0 => LoG.half HS.out hkl h)
      have HHI := Lib.hid (fun h : ¬ cmpB o[m].name k < 0 => HiG.half HS.out hkl h)
      generalize o[m] = x at *
      obtain ⟨name, na, nc, needs⟩ := x
      simp only at *
      obtain ⟨nn, hnn⟩ : ∃ z, needs.length = z := ⟨_, rfl⟩
      rw [hnn] at c1 C
      clear hnn
      generalize cmpB name k = v at *
      clear hm hkl
      by_cases hv : v < 0
      · have HLO1 := Lib.hid (HLO.out hv)
        clear HLO HHI
        go_wp2_with fail
        clear hq
        with_reducible refine (C.out _).mono ?_
        rintro e w1 ⟨rfl, b1⟩
        have HB1 := Lib.hid (hB.trans (b1.mono hB.size))
        go_wp2_with fail
        go_roundw
        case rel => exact ⟨m + 1, j, by omega, by omega, by go_num, rfl, HB1.out, HLO1, H2⟩
        case measure => simp [intOf]; omega
      · have HHI1 := Lib.hid (HHI.out hv)
        clear HLO HHI
        go_wp2_with fail
        clear hq
        with_reducible refine (C.out _).mono ?_
        rintro e w1 ⟨rfl, b1⟩
        have HB1 := Lib.hid (hB.trans (b1.mono hB.size))
        go_wp2_with fail
        go_roundw
        case rel => exact ⟨i, m, by omega, by omega, rfl, rfl, HB1.out, H1, HHI1⟩
        case measure => simp [intOf]; omega
    · obtain rfl : i = j := by omega
      by_cases hin : i < n
      · have hkl : i < o.length := by have := HN.out; omega
        obtain ⟨p, off, rfl, hp, c0, c1⟩ := (HI.out.below hB).at2s hkl
        have C := Lib.hid (fun w => schema1_any o[i] k w)
        have HY := Lib.hid (fun h : cmpB o[i].name k = 0 => show YesAt Sm.name o k i from ⟨hkl, fnd_yes (g := Sm.name) H1.out hkl h⟩)
        have HF := Lib.hid (fun h : cmpB o[i].name k ≠ 0 => fnd_no (g := Sm.name) HS.out H1.out H2.out (fun _ => h))
        generalize o[i] = x at *
        clear hkl
        obtain ⟨name, na, nc, needs⟩ := x
        simp only at c0 c1 C HY HF
        obtain ⟨nn, hnn⟩ : ∃ z, needs.length = z := ⟨_, rfl⟩
        rw [hnn] at c1 C
        clear hnn
        generalize cmpB name k = v at *
        by_cases hv : v = 0
        · subst hv
          have HF1 := Lib.hid (HY.out rfl)
          clear HF HY
          go_wp2_with fail
          with_reducible refine (C.out _).mono ?_
          rintro e w1 ⟨rfl, b1⟩
          have HB1 := Lib.hid (hB.trans (b1.mono hB.size))
          go_wp2_with fail
          go_ret2
          exact SchO.yes HF1.out.1 HF1.out.2 HB1.out
        · have HF1 := Lib.hid (HF.out hv)
          have hA : (v == 0) = false := by simpa using hv
          clear HF HY
          go_wp2_with fail
          with_reducible refine (C.out _).mono ?_
          rintro e w1 ⟨rfl, b1⟩
          have HB1 := Lib.hid (hB.trans (b1.mono hB.size))
          go_wp2_with fail
          go_ret2
          exact SchO.no HF1.out HB1.out
      · have HF1 := Lib.hid (fnd_no (g := Sm.name) HS.out H1.out H2.out (fun h => absurd h (by have := HN.out; omega)))
        go_wp2_with fail
        go_ret2
        exact SchO.no HF1.out hB
end Go.Proofs.YtfdpfkdfglombaaGreatDoor
/- Looking up a field or a schema by its name: segment.need, segment.schema, handref1.kindOf, handref1.schemaOf. -/
set_option linter.unusedVariables false
namespace Go.Proofs.YtfdpfkdfglombaaGreatDoor
open Go.RowKit

/-- what looking up leaves -/
def NeedO (l : List Nn) (k : ByteArray) (w : World) (e : Ending) (w' : World) : Prop :=
  (∃ (nm : ByteArray) (nk : Int) (mu b : Bool), e = .returned (.tuple #[.agg #[.string nm, .int .i64 nk, .bool mu], .bool b]) ∧ ((b = true ∧ fndG Nn.name l k = some ⟨nm, nk, mu⟩) ∨ (b = false ∧ fndG Nn.name l k = none))) ∧ Below w.heap.size w w'
def SchemaO (l : List Sm) (k : ByteArray) (w : World) (e : Ending) (w' : World) : Prop :=
  (∃ (nm : ByteArray) (na : Option Addr) (nc nn : Nat) (needs : List Nn) (b : Bool), needs.length = nn ∧ e = .returned (.tuple #[.agg #[.string nm, .slice na nn nc], .bool b]) ∧ ((b = true ∧ fndG Sm.name l k = some ⟨nm, na, nc, needs⟩) ∨ (b = false ∧ fndG Sm.name l k = none))) ∧ Below w.heap.size w w'
def NeedsO (l : List Sm) (k : ByteArray) (w : World) (e : Ending) (w' : World) : Prop :=
  (∃ (nm : ByteArray) (na : Option Addr) (nc nn : Nat) (needs : List Nn) (b : Bool), needs.length = nn ∧ e = .returned (.tuple #[.slice na nn nc, .bool b]) ∧ ((b = true ∧ fndG Sm.name l k = some ⟨nm, na, nc, needs⟩) ∨ (b = false ∧ fndG Sm.name l k = none))) ∧ Below w.heap.size w w'

theorem sizeNeed : (Tryz.prog.info? 61).map (·.size) = some 3 := by kernel_rfl
theorem sizeSchema : (Tryz.prog.info? 67).map (·.size) = some 2 := by kernel_rfl

set_option maxRecDepth 100000 in
set_option maxHeartbeats 4000000 in
theorem need_any (a : Option Addr) (l : List Nn) (n c : Nat) (k : ByteArray) (w : World) (hn : l.length = n) (hn1 : n ≤ 1000) (hI : RAt w a 3 Nn.cells l) (hs : l.Pairwise fun x y => cmpB x.name y.name < 0) :
    Calls Tryz.prog 81 #[.slice a n c, .string k] w (NeedO l k w) := by
  have C := Lib.hid (fun w h => needSearch_any a l n c k w hn hn1 h hs)
  have HN := Lib.hid hn
  have HI := Lib.hid (hI.alloc (.cells #[.string ⟨#[]⟩, .int .i64 0, .bool false] 61))
  have HO := Lib.hid (OB.new w [.string ⟨#[]⟩, .int .i64 0, .bool false] 61)
  have HB0 := Lib.hid ((Below.refl w.heap.size w).alloc (Nat.le_refl _) (.cells #[.string ⟨#[]⟩, .int .i64 0, .bool false] 61))
  clear hn hI hs
  simp only [List.toArray] at HO
  go_enter Tryz.func81, Tryz.ntmps81
  go_wp2_with fail
  generalize w.alloc (.cells #[.string ⟨#[]⟩, .int .i64 0, .bool false] 61) = w0 at *
  obtain ⟨q0, hq0⟩ : ∃ z, w.heap.size = z := ⟨_, rfl⟩
  rw [hq0] at HO ⊢
  have HQ := Lib.hid hq0
  clear hq0
  with_reducible refine (C.out _ HI.out).mono ?_
  rintro e w1 ⟨⟨i, b, rfl, h⟩, hb⟩
  have HI1 := Lib.hid (HI.out.below hb)
  have HO1 := Lib.hid (HO.out.below hb)
  have HB := Lib.hid (HB0.out.trans (hb.mono HB0.out.size))
  clear hb HI HO HB0
  rcases h with ⟨rfl, hi, hf⟩ | ⟨rfl, hf⟩
  · have hlt : i < n := by have := HN.out; omega
    obtain ⟨p, off, rfl, hp, c0, c1, c2⟩ := HI1.out.at3n hi
    have HF := Lib.hid hf
    clear hf
    generalize l[i] = x at *
    obtain ⟨name, kind, must⟩ := x
    simp only at c0 c1 c2
    go_wp2_with (refine wpList_store_oc _ rfl _ _ _ rfl q0 _ [.string name, .int .i64 kind, .bool must] _ rfl rfl HO1.out sizeNeed rfl rfl ?_)
    intro w9 o9 k9
    have HB9 := Lib.hid (HB.out.grown k9 HB.out.size (fun q e => by have := Option.some.inj e; have := HQ.out; omega))
    have r0 := o9.cell 0 _ rfl
    have r1 := o9.cell 1 _ rfl
    have r2 := o9.cell 2 _ rfl
    clear o9 k9
    go_wp2_with fail
    exact bodyPost_ret (v := .tuple #[.agg #[.string name, .int .i64 kind, .bool must], .bool true]) (by simp [results, Tryz.results81, go_sem, r0, r1, r2]) rfl ⟨⟨name, kind, must, true, rfl, .inl ⟨rfl, HF.out⟩⟩, HB9.out⟩
  · have HF := Lib.hid hf
    clear hf
    go_wp2_with (refine wpList_store_oc _ rfl _ _ _ rfl q0 _ [.string ⟨#[]⟩, .int .i64 0, .bool false] _ rfl rfl HO1.out sizeNeed rfl rfl ?_)
    intro w9 o9 k9
    have HB9 := Lib.hid (HB.out.grown k9 HB.out.size (fun q e => by have := Option.some.inj e; have := HQ.out; omega))
    have r0 := o9.cell 0 _ rfl
    have r1 := o9.cell 1 _ rfl
    have r2 := o9.cell 2 _ rfl
    clear o9 k9
    go_wp2_with fail
    exact bodyPost_ret (v := .tuple #[.agg #[.string ⟨#[]⟩, .int .i64 0, .bool false], .bool false]) (by simp [results, Tryz.results81, go_sem, r0, r1, r2]) rfl ⟨⟨⟨#[]⟩, 0, false, false, rfl, .inr ⟨rfl, HF.out⟩⟩, HB9.out⟩

set_option maxRecDepth 100000 in
set_option maxHeartbeats 4000000 in
theorem schema_any (a : Option Addr) (l : List Sm) (n c : Nat) (k : ByteArray) (w : World) (hn : l.length = n) (hn1 : n ≤ 1000) (hI : RAt w a 2 Sm.cells l) (hs : l.Pairwise fun x y => cmpB x.name y.name < 0) :
    Calls Tryz.prog 84 #[.slice a n c, .string k] w (SchemaO l k w) := by
  have C := Lib.hid (fun w h => schemaSearch_any a l n c k w hn hn1 h hs)
  have HN := Lib.hid hn
  have HI := Lib.hid (hI.alloc (.cells #[.string ⟨#[]⟩, .slice none 0 0] 67))
  have HO := Lib.hid (OB.new w [.string ⟨#[]⟩, .slice none 0 0] 67)
  have HB0 := Lib.hid ((Below.refl w.heap.size w).alloc (Nat.le_refl _) (.cells #[.string ⟨#[]⟩, .slice none 0 0] 67))
  clear hn hI hs
  simp only [List.toArray] at HO
  go_enter Tryz.func84, Tryz.ntmps84
  go_wp2_with fail
  generalize w.alloc (.cells #[.string ⟨#[]⟩, .slice none 0 0] 67) = w0 at *
  obtain ⟨q0, hq0⟩ : ∃ z, w.heap.size = z := ⟨_, rfl⟩
  rw [hq0] at HO ⊢
  have HQ := Lib.hid hq0
  clear hq0
  with_reducible refine (C.out _ HI.out).mono ?_
  rintro e w1 ⟨⟨i, b, rfl, h⟩, hb⟩
  have HI1 := Lib.hid (HI.out.below hb)
  have HO1 := Lib.hid (HO.out.below hb)
  have HB := Lib.hid (HB0.out.trans (hb.mono HB0.out.size))
  clear hb HI HO HB0
  rcases h with ⟨rfl, hi, hf⟩ | ⟨rfl, hf⟩
  · have hlt : i < n := by have := HN.out; omega
    obtain ⟨p, off, rfl, hp, c0, c1⟩ := HI1.out.at2s hi
    have HF := Lib.hid hf
    clear hf
    generalize l[i] = x at *
    obtain ⟨name, na, nc, needs⟩ := x
    simp only at c0 c1
    obtain ⟨nn, hnn⟩ : ∃ z, needs.length = z := ⟨_, rfl⟩
    rw [hnn] at c1
    have HNN := Lib.hid hnn
    clear hnn
    go_wp2_with (refine wpList_store_oc _ rfl _ _ _ rfl q0 _ [.string name, .slice na nn nc] _ rfl rfl HO1.out sizeSchema rfl rfl ?_)
    intro w9 o9 k9
    have HB9 := Lib.hid (HB.out.grown k9 HB.out.size (fun q e => by have := Option.some.inj e; have := HQ.out; omega))
    have r0 := o9.cell 0 _ rfl
    have r1 := o9.cell 1 _ rfl
    clear o9 k9
    go_wp2_with fail
    exact bodyPost_ret (v := .tuple #[.agg #[.string name, .slice na nn nc], .bool true]) (by simp [results, Tryz.results84, go_sem, r0, r1]) rfl ⟨⟨name, na, nc, nn, needs, true, HNN.out, rfl, .inl ⟨rfl, HF.out⟩⟩, HB9.out⟩
  · have HF := Lib.hid hf
    clear hf
    go_wp2_with (refine wpList_store_oc _ rfl _ _ _ rfl q0 _ [.string ⟨#[]⟩, .slice none 0 0] _ rfl rfl HO1.out sizeSchema rfl rfl ?_)
    intro w9 o9 k9
    have HB9 := Lib.hid (HB.out.grown k9 HB.out.size (fun q e => by have := Option.some.inj e; have := HQ.out; omega))
    have r0 := o9.cell 0 _ rfl
    have r1 := o9.cell 1 _ rfl
    clear o9 k9
    go_wp2_with fail
    exact bodyPost_ret (v := .tuple #[.agg #[.string ⟨#[]⟩, .slice none 0 0], .bool false]) (by simp [results, Tryz.results84, go_sem, r0, r1]) rfl ⟨⟨⟨#[]⟩, none, 0, 0, [], false, rfl, rfl, .inr ⟨rfl, HF.out⟩⟩, HB9.out⟩

set_option maxRecDepth 100000 in
set_option maxHeartbeats 4000000 in
theorem kindOf_any (a : Option Addr) (l : List Nn) (n c : Nat) (k : ByteArray) (w : World) (hn : l.length = n) (hn1 : n ≤ 1000) (hI : RAt w a 3 Nn.cells l) :
    Calls Tryz.prog 87 #[.slice a n c, .string k] w (IntO w (kdE l k)) := by
  have HN := Lib.hid hn
  have HI := Lib.hid hI
  clear hn hI
  obtain ⟨R, hR⟩ : ∃ z, kdE l k = z := ⟨_, rfl⟩
  rw [hR]
  have HR : Hid (kdO (fndG Nn.name (l.drop 0) k) = R) := Lib.hid hR
  clear hR
  go_enter Tryz.func87, Tryz.ntmps87
  go_wp2_with fail
  go_loopw [9] (fun i wr => ∃ j : Nat, j ≤ n ∧ i = .int .i64 j ∧ Below w.heap.size w wr ∧ Hid (kdO (fndG Nn.name (l.drop j) k) = R)) (fun i _ => n - (intOf i).toNat)
  case atStart => exact ⟨0, Nat.zero_le _, rfl, Below.refl _ _, HR⟩
  case round =>
    obtain ⟨j, hj, rfl, hB, H⟩ := hrel
    by_cases hlt : j < n
    · have hjl : j < l.length := by have := HN.out; omega
      obtain ⟨p, off, rfl, hp, c0, c1, c2⟩ := (HI.out.below hB).at3n hjl
      have HD := Lib.hid (fndG_drop (g := Nn.name) l k j hjl)
      generalize l[j] = x at *
      obtain ⟨name, kind, must⟩ := x
      simp only at c0 c1 c2 HD
      obtain ⟨b, hb⟩ : ∃ b, eqN name k = b := ⟨_, rfl⟩
      have hq : (name.toList == k.toList) = b := hb
      rw [hb] at HD
      clear hb
      cases b with
      | true =>
        have HE : Hid (kind = R) := Lib.hid (by rw [← H.out, HD.out]; rfl)
        go_wp2_with fail
        go_ret
        exact ⟨ret_int HE.out, by first | exact hB | exact hB.alloc hB.size _⟩
      | false =>
        have HE : Hid (kdO (fndG Nn.name (l.drop (j + 1)) k) = R) := Lib.hid (by rw [← H.out, HD.out]; rfl)
        go_wp2_with fail
        go_roundw
        case rel => exact ⟨j + 1, by omega, by go_num, (by first | exact hB | exact hB.alloc hB.size _), HE⟩
        case measure => simp [intOf]; omega
    · have HE : Hid (R = 0) := Lib.hid (by rw [← H.out, List.drop_eq_nil_of_le (by have := HN.out; omega)]; rfl)
      go_wp2_with fail
      go_ret
      exact ⟨ret_int HE.out.symm, hB⟩

set_option maxRecDepth 100000 in
set_option maxHeartbeats 4000000 in
theorem schemaOf_any (a : Option Addr) (l : List Sm) (n c : Nat) (k : ByteArray) (w : World) (hn : l.length = n) (hn1 : n ≤ 1000) (hI : RAt w a 2 Sm.cells l) :
    Calls Tryz.prog 156 #[.slice a n c, .string k] w (NeedsO l k w) := by
  have HN := Lib.hid hn
  have HI := Lib.hid hI
  clear hn hI
  have HR : Hid (fndG Sm.name l k = fndG Sm.name (l.drop 0) k) := Lib.hid rfl
  go_enter Tryz.func156, Tryz.ntmps156
  go_wp2_with fail
  go_loopw [10] (fun i wr => ∃ j : Nat, j ≤ n ∧ i = .int .i64 j ∧ Below w.heap.size w wr ∧ Hid (fndG Sm.name l k = fndG Sm.name (l.drop j) k)) (fun i _ => n - (intOf i).toNat)
  case atStart => exact ⟨0, Nat.zero_le _, rfl, Below.refl _ _, HR⟩
  case round =>
    obtain ⟨j, hj, rfl, hB, H⟩ := hrel
    by_cases hlt : j < n
    · have hjl : j < l.length := by have := HN.out; omega
      obtain ⟨p, off, rfl, hp, c0, c1⟩ := (HI.out.below hB).at2s hjl
      have HD := Lib.hid (fndG_drop (g := Sm.name) l k j hjl)
      generalize l[j] = x at *
      obtain ⟨name, na, nc, needs⟩ := x
      simp only at c0 c1 HD
      obtain ⟨nn, hnn⟩ : ∃ z, needs.length = z := ⟨_, rfl⟩
      rw [hnn] at c1
      obtain ⟨b, hb⟩ : ∃ b, eqN name k = b := ⟨_, rfl⟩
      have hq : (name.toList == k.toList) = b := hb
      rw [hb] at HD
      clear hb
      cases b with
      | true =>
        have HE : Hid (fndG Sm.name l k = some ⟨name, na, nc, needs⟩) := Lib.hid (by rw [H.out, HD.out]; rfl)
        have HNN := Lib.hid hnn
        clear hnn
        go_wp2_with fail
        go_ret2
        exact ⟨⟨name, na, nc, nn, needs, true, HNN.out, rfl, .inl ⟨rfl, HE.out⟩⟩, by first | exact hB | exact hB.alloc hB.size _⟩
      | false =>
        have HE : Hid (fndG Sm.name l k = fndG Sm.name (l.drop (j + 1)) k) := Lib.hid (by rw [H.out, HD.out]; rfl)
        clear hnn
        go_wp2_with fail
        go_roundw
        case rel => exact ⟨j + 1, by omega, by go_num, (by first | exact hB | exact hB.alloc hB.size _), HE⟩
        case measure => simp [intOf]; omega
    · have HE : Hid (fndG Sm.name l k = none) := Lib.hid (by rw [H.out, List.drop_eq_nil_of_le (by have := HN.out; omega)]; rfl)
      go_wp2_with fail
      go_ret2
      exact ⟨⟨⟨#[]⟩, none, 0, 0, [], false, rfl, rfl, .inr ⟨rfl, HE.out⟩⟩, hB⟩
end Go.Proofs.YtfdpfkdfglombaaGreatDoor
/- slices.ContainsFunc over values: is one of another kind (printed by gen_tyhas.py). -/
set_option linter.unusedVariables false
namespace Go.Proofs.YtfdpfkdfglombaaGreatDoor
open Go.RowKit

def othB (kd : Int) (v : Vl) : Bool := !decide (v.kind = kd)
def othI (kd : Int) : List Vl → Nat → Int
  | [], _ => -1
  | x :: r, i => if othB kd x = true then (i : Int) else othI kd r (i + 1)
theorem othI_drop (kd : Int) (l : List Vl) (k : Nat) (h : k < l.length) : othI kd (l.drop k) k = if othB kd l[k] = true then (k : Int) else othI kd (l.drop (k + 1)) (k + 1) := by
  rw [List.drop_eq_getElem_cons h]; rfl
theorem othI_any (kd : Int) : ∀ (l : List Vl) (i : Nat), l.any (othB kd) = decide (0 ≤ othI kd l i)
  | [], i => rfl
  | x :: r, i => by
    rw [List.any_cons]
    unfold othI
    cases h : othB kd x with
    | true => rw [if_pos rfl, Bool.true_or]; exact (decide_eq_true (by omega)).symm
    | false => rw [if_neg (by decide), Bool.false_or]; exact othI_any kd r (i + 1)

theorem suit1_any (x : Vl) (q : Nat) (kd : Int) (w : World) (hq : w.cell? ⟨q, 1, none⟩ = some (.int .i64 kd)) :
    Calls Tryz.prog 83 #[.agg #[.int .i64 x.kind, .string x.text, .int .i64 x.num], .pointer (some ⟨q, 0, none⟩)] w
      fun e w' => e = .returned (.bool (othB kd x)) ∧ Below w.heap.size w w' := by
  have hql := World.block_lt_of_cell? w _ hq
  go_enter Tryz.func83, Tryz.ntmps83
  go_wp2_with fail
  go_ret
  refine ⟨ret_bool ?_, (Below.refl _ _).alloc (Nat.le_refl _) _⟩
  unfold othB
  first | rfl | (by_cases h : x.kind = kd <;> simp [h])

set_option maxRecDepth 100000 in
set_option maxHeartbeats 4000000 in
theorem suitIdx_any (a : Option Addr) (l : List Vl) (n c q : Nat) (kd : Int) (w : World) (hn : l.length = n) (hn1 : n ≤ 1000) (hI : RAt w a 3 Vl.cells l) (hq : w.cell? ⟨q, 1, none⟩ = some (.int .i64 kd)) :
    Calls Tryz.prog 152 #[.slice a n c, .func (.func 83) #[] #[.pointer (some ⟨q, 0, none⟩)]] w (IntO w (othI kd l 0)) := by
  have hql := World.block_lt_of_cell? w _ hq
  have HN := Lib.hid hn
  have HI := Lib.hid hI
  have HQ := Lib.hid hq
  obtain ⟨V, hV⟩ : ∃ V, othI kd l 0 = V := ⟨_, rfl⟩
  rw [hV]
  have HV : Hid (V = othI kd (l.drop 0) 0) := Lib.hid hV.symm
  clear hn hI hq hV
  go_enter Tryz.func152, Tryz.ntmps152
  go_wp2_with fail
  go_loopw [5, 8] (fun _ i wr => ∃ k : Nat, k ≤ n ∧ i = .int .i64 k ∧ Below w.heap.size w wr ∧ Hid (V = othI kd (l.drop k) k)) (fun _ i _ => n - (intOf i).toNat)
  case atStart => exact ⟨0, Nat.zero_le _, rfl, Below.refl _ _, HV⟩
  case round =>
    obtain ⟨k, hk, rfl, hB, hH⟩ := hrel
    by_cases hlt : k < n
    · have hkl : k < l.length := by have := HN.out; omega
      obtain ⟨p, off, rfl, hp, c0, c1, c2⟩ := (HI.out.below hB).at3v hkl
      have hq' := (hB.cell (p := ⟨q, 1, none⟩) hql).trans HQ.out
      have C := Lib.hid (suit1_any l[k] q kd wr hq')
      have HS := Lib.hid (hH.out.trans (othI_drop kd l k hkl))
      obtain ⟨b, hb⟩ : ∃ b, othB kd l[k] = b := ⟨_, rfl⟩
      rw [hb] at C HS
      clear hb hq' hH
      generalize l[k] = x at *
      obtain ⟨xk, xt, xn⟩ := x
      simp only at c0 c1 c2 C
      cases b with
      | true =>
        obtain rfl : V = (k : Int) := HS.out.trans (if_pos rfl)
        go_wp2_with fail
        with_reducible refine C.out.mono ?_
        rintro e w1 ⟨rfl, b1⟩
        have HB1 := Lib.hid (hB.trans (b1.mono hB.size))
        go_wp2_with fail
        go_ret
        exact ⟨rfl, HB1.out⟩
      | false =>
        have HR := Lib.hid (HS.out.trans (if_neg (by decide)))
        go_wp2_with fail
        with_reducible refine C.out.mono ?_
        rintro e w1 ⟨rfl, b1⟩
        have HB1 := Lib.hid (hB.trans (b1.mono hB.size))
        go_wp2_with fail
        go_roundw
        case rel => exact ⟨k + 1, by omega, by go_num, HB1.out, HR⟩
        case measure => simp [intOf]; omega
    · have HE := Lib.hid (show V = -1 by rw [hH.out, List.drop_eq_nil_of_le (by rw [HN.out]; omega)]; rfl)
      have HB := Lib.hid hB
      clear hH hB
      go_wp2_with fail
      go_ret
      exact ⟨ret_int HE.out.symm, HB.out⟩

theorem suitHas_any (a : Option Addr) (l : List Vl) (n c q : Nat) (kd : Int) (w : World) (hn : l.length = n) (hn1 : n ≤ 1000) (hI : RAt w a 3 Vl.cells l) (hq : w.cell? ⟨q, 1, none⟩ = some (.int .i64 kd)) :
    Calls Tryz.prog 82 #[.slice a n c, .func (.func 83) #[] #[.pointer (some ⟨q, 0, none⟩)]] w
      fun e w' => e = .returned (.bool (l.any (othB kd))) ∧ Below w.heap.size w w' := by
  have C := Lib.hid (suitIdx_any a l n c q kd w hn hn1 hI hq)
  have HE := Lib.hid (othI_any kd l 0)
  clear hn hI hq
  generalize l.any (othB kd) = b at *
  generalize othI kd l 0 = r at *
  go_enter Tryz.func82, Tryz.ntmps82
  go_wp2_with fail
  with_reducible refine C.out.mono ?_
  rintro e w1 ⟨rfl, hb⟩
  go_wp2_with fail
  go_ret
  exact ⟨ret_bool HE.out.symm, hb⟩

theorem tyF1_any (x : Vl) (q : Nat) (kd : Int) (w : World) (hq : w.cell? ⟨q, 0, none⟩ = some (.int .i64 kd)) :
    Calls Tryz.prog 88 #[.agg #[.int .i64 x.kind, .string x.text, .int .i64 x.num], .pointer (some ⟨q, 0, none⟩)] w
      fun e w' => e = .returned (.bool (othB kd x)) ∧ Below w.heap.size w w' := by
  have hql := World.block_lt_of_cell? w _ hq
  go_enter Tryz.func88, Tryz.ntmps88
  go_wp2_with fail
  go_ret
  refine ⟨ret_bool ?_, (Below.refl _ _).alloc (Nat.le_refl _) _⟩
  unfold othB
  first | rfl | (by_cases h : x.kind = kd <;> simp [h])

set_option maxRecDepth 100000 in
set_option maxHeartbeats 4000000 in
theorem tyFIdx_any (a : Option Addr) (l : List Vl) (n c q : Nat) (kd : Int) (w : World) (hn : l.length = n) (hn1 : n ≤ 1000) (hI : RAt w a 3 Vl.cells l) (hq : w.cell? ⟨q, 0, none⟩ = some (.int .i64 kd)) :
    Calls Tryz.prog 152 #[.slice a n c, .func (.func 88) #[] #[.pointer (some ⟨q, 0, none⟩)]] w (IntO w (othI kd l 0)) := by
  have hql := World.block_lt_of_cell? w _ hq
  have HN := Lib.hid hn
  have HI := Lib.hid hI
  have HQ := Lib.hid hq
  obtain ⟨V, hV⟩ : ∃ V, othI kd l 0 = V := ⟨_, rfl⟩
  rw [hV]
  have HV : Hid (V = othI kd (l.drop 0) 0) := Lib.hid hV.symm
  clear hn hI hq hV
  go_enter Tryz.func152, Tryz.ntmps152
  go_wp2_with fail
  go_loopw [5, 8] (fun _ i wr => ∃ k : Nat, k ≤ n ∧ i = .int .i64 k ∧ Below w.heap.size w wr ∧ Hid (V = othI kd (l.drop k) k)) (fun _ i _ => n - (intOf i).toNat)
  case atStart => exact ⟨0, Nat.zero_le _, rfl, Below.refl _ _, HV⟩
  case round =>
    obtain ⟨k, hk, rfl, hB, hH⟩ := hrel
    by_cases hlt : k < n
    · have hkl : k < l.length := by have := HN.out; omega
      obtain ⟨p, off, rfl, hp, c0, c1, c2⟩ := (HI.out.below hB).at3v hkl
      have hq' := (hB.cell (p := ⟨q, 0, none⟩) hql).trans HQ.out
      have C := Lib.hid (tyF1_any l[k] q kd wr hq')
      have HS := Lib.hid (hH.out.trans (othI_drop kd l k hkl))
      obtain ⟨b, hb⟩ : ∃ b, othB kd l[k] = b := ⟨_, rfl⟩
      rw [hb] at C HS
      clear hb hq' hH
      generalize l[k] = x at *
      obtain ⟨xk, xt, xn⟩ := x
      simp only at c0 c1 c2 C
      cases b with
      | true =>
        obtain rfl : V = (k : Int) := HS.out.trans (if_pos rfl)
        go_wp2_with fail
        with_reducible refine C.out.mono ?_
        rintro e w1 ⟨rfl, b1⟩
        have HB1 := Lib.hid (hB.trans (b1.mono hB.size))
        go_wp2_with fail
        go_ret
        exact ⟨rfl, HB1.out⟩
      | false =>
        have HR := Lib.hid (HS.out.trans (if_neg (by decide)))
        go_wp2_with fail
        with_reducible refine C.out.mono ?_
        rintro e w1 ⟨rfl, b1⟩
        have HB1 := Lib.hid (hB.trans (b1.mono hB.size))
        go_wp2_with fail
        go_roundw
        case rel => exact ⟨k + 1, by omega, by go_num, HB1.out, HR⟩
        case measure => simp [intOf]; omega
    · have HE := Lib.hid (show V = -1 by rw [hH.out, List.drop_eq_nil_of_le (by rw [HN.out]; omega)]; rfl)
      have HB := Lib.hid hB
      clear hH hB
      go_wp2_with fail
      go_ret
      exact ⟨ret_int HE.out.symm, HB.out⟩

theorem tyFHas_any (a : Option Addr) (l : List Vl) (n c q : Nat) (kd : Int) (w : World) (hn : l.length = n) (hn1 : n ≤ 1000) (hI : RAt w a 3 Vl.cells l) (hq : w.cell? ⟨q, 0, none⟩ = some (.int .i64 kd)) :
    Calls Tryz.prog 82 #[.slice a n c, .func (.func 88) #[] #[.pointer (some ⟨q, 0, none⟩)]] w
      fun e w' => e = .returned (.bool (l.any (othB kd))) ∧ Below w.heap.size w w' := by
  have C := Lib.hid (tyFIdx_any a l n c q kd w hn hn1 hI hq)
  have HE := Lib.hid (othI_any kd l 0)
  clear hn hI hq
  generalize l.any (othB kd) = b at *
  generalize othI kd l 0 = r at *
  go_enter Tryz.func82, Tryz.ntmps82
  go_wp2_with fail
  with_reducible refine C.out.mono ?_
  rintro e w1 ⟨rfl, hb⟩
  go_wp2_with fail
  go_ret
  exact ⟨ret_bool HE.out.symm, hb⟩
end Go.Proofs.YtfdpfkdfglombaaGreatDoor
/- What is wrong with fields and schemas: segment.checkFieldsOf, event.checkNeeds, event.CheckSchemas (printed by gen_tych.py). -/
set_option linter.unusedVariables false
namespace Go.Proofs.YtfdpfkdfglombaaGreatDoor
open Go.RowKit

theorem ewithinB (n lo hi : Int) (b : Bool) (hb : decide (lo ≤ n ∧ n ≤ hi) = b) (w : World) : Calls Tryz.prog 148 #[.int .i64 n, .int .i64 lo, .int .i64 hi] w fun e w' => e = .returned (.bool b) ∧ w = w' := by
  by_cases h1 : lo ≤ n
  · by_cases h2 : n ≤ hi
    · obtain rfl : b = true := hb.symm.trans (decide_eq_true ⟨h1, h2⟩)
      clear hb
      go_enter Tryz.func148, Tryz.ntmps148
      go_wp2
      go_ret
      exact ⟨ret_bool (by simp <;> omega), rfl⟩
    · obtain rfl : b = false := hb.symm.trans (decide_eq_false fun h => h2 h.2)
      clear hb
      go_enter Tryz.func148, Tryz.ntmps148
      go_wp2
      go_ret
      exact ⟨ret_bool (by simp <;> omega), rfl⟩
  · obtain rfl : b = false := hb.symm.trans (decide_eq_false fun h => h1 h.1)
    clear hb
    go_enter Tryz.func148, Tryz.ntmps148
    go_wp2
    go_ret
    exact ⟨rfl, rfl⟩
theorem getN (l : List Nn) (i : Nat) (h : i < l.length) : l.getD i default = l[i] := by
  rw [List.getD_eq_getElem?_getD, List.getElem?_eq_getElem h]; rfl
theorem getM (l : List Sm) (i : Nat) (h : i < l.length) : l.getD i default = l[i] := by
  rw [List.getD_eq_getElem?_getD, List.getElem?_eq_getElem h]; rfl
/-- the name before, as it lies -/
theorem prevN {w : World} {p off : Nat} {l : List Nn} (h : RAt w (some ⟨p, off, none⟩) 3 Nn.cells l) {k : Nat} (hk : 0 < k) (hl : k < l.length) : ∃ y : ByteArray, (l.getD (k - 1) default).name = y ∧ w.cell? ⟨p, off + (k - 1) * 3, none⟩ = some (.string y) := by
  obtain ⟨p', off', e, -, c0, -⟩ := h.at3n (j := k - 1) (by omega)
  injection e with e
  injection e with e1 e2
  subst e1 e2
  exact ⟨_, by rw [getN l (k - 1) (by omega)], c0⟩
theorem prevM {w : World} {p off : Nat} {l : List Sm} (h : RAt w (some ⟨p, off, none⟩) 2 Sm.cells l) {k : Nat} (hk : 0 < k) (hl : k < l.length) : ∃ y : ByteArray, (l.getD (k - 1) default).name = y ∧ w.cell? ⟨p, off + (k - 1) * 2, none⟩ = some (.string y) := by
  obtain ⟨p', off', e, -, c0, -⟩ := h.at2s (j := k - 1) (by omega)
  injection e with e
  injection e with e1 e2
  subst e1 e2
  exact ⟨_, by rw [getM l (k - 1) (by omega)], c0⟩
theorem rat_drewN {α : Type} {w : World} {a : Option Addr} {C : Nat} {f : α → List Value} {l : List α} (h : RAt w a C f l) (n : Nat) : RAt (w.drewN n) a C f l := h
theorem ndX_ok {b1 b2 b3 : Bool} (h1 : b1 = true) (h2 : b2 = true) (h3 : b3 = false) : ndX b1 b2 b3 = 0 := by subst h1 h2 h3; rfl

set_option maxRecDepth 100000 in
set_option maxHeartbeats 8000000 in
theorem checkFieldsOf_any (a : Option Addr) (l : List Nn) (n c : Nat) (w : World) (hn : l.length = n) (hn1 : n ≤ 1000) (hI : RAt w a 3 Nn.cells l) (hok : ∀ x ∈ l, x.ok) :
    Calls Tryz.prog 36 #[.slice a n c] w (IntO w (nnsE l)) := by
  obtain ⟨V, hV⟩ : ∃ V, nnsE l = V := ⟨_, rfl⟩
  rw [hV]
  have HV := Lib.hid hV.symm
  unfold nnsE at HV
  rw [hn] at HV
  have HN := Lib.hid hn
  have HI := Lib.hid hI
  have HOK := Lib.hid hok
  clear hV hn hI hok
  by_cases h10 : 30 < n
  · obtain rfl : V = 2 := HV.out.trans (if_pos h10)
    have hd : decide (30 < n) = true := decide_eq_true h10
    go_enter Tryz.func36, Tryz.ntmps36
    go_wp2_with fail
    go_ret
    exact ⟨rfl, Below.refl _ _⟩
  · have HV0 := Lib.hid (show V = goE (nnE l) (n - 0) 0 from HV.out.trans (if_neg h10))
    have hd : decide (30 < n) = false := decide_eq_false h10
    clear HV
    go_enter Tryz.func36, Tryz.ntmps36
    go_wp2_with fail
    go_loopw [10] (fun i wr => ∃ k : Nat, k ≤ n ∧ i = .int .i64 k ∧ Below w.heap.size w wr ∧ Hid (V = goE (nnE l) (n - k) k)) (fun i _ => n - (intOf i).toNat)
    case atStart => exact ⟨0, Nat.zero_le _, rfl, Below.refl _ _, HV0⟩
    case round =>
      obtain ⟨k, hk, rfl, hB0, hH⟩ := hrel
      by_cases hlt : k < n
      · have hkl : k < l.length := by have := HN.out; omega
        have hRI := HI.out.below hB0
        obtain ⟨p, off, rfl, hp, c0, c1, c2⟩ := hRI.at3n hkl
        obtain ⟨ok1, ok2⟩ := HOK.out l[k] (List.getElem_mem hkl)
        have HST := Lib.hid (show V = if nnE l k = 0 then goE (nnE l) (n - (k + 1)) (k + 1) else nnE l k from hH.out.trans (goE_step (nnE l) n k hlt))
        have HT := Lib.hid (show nnE l k = ndX (keyB (l.getD k default).name) (decide (1 ≤ (l.getD k default).kind ∧ (l.getD k default).kind ≤ 4)) (decide (0 < k) && leN (l.getD k default).name (l.getD (k - 1) default).name) from rfl)
        rw [getN l k hkl] at HT
        have HPV := Lib.hid (fun h0 : 0 < k => prevN hRI h0 hkl)
        clear hRI
        generalize l[k] = x at *
        obtain ⟨name, kind, must⟩ := x
        simp only at c0 c1 c2 ok1 HT
        have CK := Lib.hid (fun w => isKey_any name w (by unfold maxLen; omega))
        obtain ⟨b1, hb1⟩ : ∃ b, keyB name = b := ⟨_, rfl⟩
        obtain ⟨b2, hb2⟩ : ∃ b, decide (1 ≤ kind ∧ kind ≤ 4) = b := ⟨_, rfl⟩
        have CW := Lib.hid (fun w => swithinB kind 1 4 b2 hb2 w)
        rw [hb1, hb2] at HT
        rw [hb1] at CK
        have HB := Lib.hid (hB0.alloc hB0.size (.cells #[.string name, .int .i64 kind, .bool must] 61))
        clear hb1 hb2 hH hB0
        go_wp2_with fail
        with_reducible refine (CK.out _).mono ?_
        rintro e w1 ⟨rfl, rfl⟩
        cases b1 with
        | false =>
          have HR := Lib.hid (HST.out.trans (show _ = (5 : Int) by rw [HT.out]; simp [ndX]))
          clear CW CK HPV
          go_wp2_with fail
          go_ret
          exact ⟨ret_int HR.out.symm, HB.out⟩
        | true =>
          go_wp2_with fail
          with_reducible refine (CW.out _).mono ?_
          rintro e w1 ⟨rfl, rfl⟩
          cases b2 with
          | false =>
            have HR := Lib.hid (HST.out.trans (show _ = (4 : Int) by rw [HT.out]; simp [ndX]))
            clear CW CK HPV
            go_wp2_with fail
            go_ret
            exact ⟨ret_int HR.out.symm, HB.out⟩
          | true =>
            by_cases hk0 : 0 < k
            · obtain ⟨y, hy, cy0⟩ := HPV.out hk0
              rw [hy] at HT
              have hd0 : decide (0 < (k : Int)) = true := by simp; omega
              have cy := (World.cell?_alloc_lt _ (.cells #[.string name, .int .i64 kind, .bool must] 61) _ hp).trans cy0
              have hsp : (Op.bytesLess name.toList y.toList || name.toList == y.toList) = leN name y := rfl
              obtain ⟨b3, hb3⟩ : ∃ b, leN name y = b := ⟨_, rfl⟩
              rw [hb3] at HT hsp
              clear hb3 hy cy0 HPV CK CW
              cases b3 with
              | true =>
                have HR := Lib.hid (HST.out.trans (show _ = (7 : Int) by rw [HT.out]; simp [ndX, hk0]))
                go_wp2_with fail
                go_quiet (fail)
                go_wp2_with fail
                go_ret
                exact ⟨ret_int HR.out.symm, below_drewN HB.out _⟩
              | false =>
                have HR := Lib.hid (HST.out.trans (show _ = goE (nnE l) (n - (k + 1)) (k + 1) by rw [HT.out, ndX_ok rfl rfl (by simp), if_pos rfl]))
                go_wp2_with fail
                go_quiet (fail)
                go_wp2_with fail
                go_roundw
                case rel => exact ⟨k + 1, by omega, by go_num, below_drewN HB.out _, HR⟩
                case measure => simp [intOf]; omega
            · have hd0 : decide (0 < (k : Int)) = false := by simp; omega
              have HR := Lib.hid (HST.out.trans (show _ = goE (nnE l) (n - (k + 1)) (k + 1) by rw [HT.out, ndX_ok rfl rfl (by simp; omega), if_pos rfl]))
              clear HPV CK CW
              go_wp2_with fail
              go_quiet (fail)
              go_wp2_with fail
              go_roundw
              case rel => exact ⟨k + 1, by omega, by go_num, below_drewN HB.out _, HR⟩
              case measure => simp [intOf]; omega
      · have HE := Lib.hid (hH.out.trans (show _ = (0 : Int) by rw [show n - k = 0 by omega]; rfl))
        have HB := Lib.hid hB0
        clear hH hB0
        go_wp2_with fail
        go_ret
        exact ⟨ret_int HE.out.symm, HB.out⟩

set_option maxRecDepth 100000 in
set_option maxHeartbeats 8000000 in
theorem checkNeeds_any (a : Option Addr) (l : List Nn) (n c : Nat) (w : World) (hn : l.length = n) (hn1 : n ≤ 1000) (hI : RAt w a 3 Nn.cells l) (hok : ∀ x ∈ l, x.ok) :
    Calls Tryz.prog 80 #[.slice a n c] w (IntO w (nnsE l)) := by
  obtain ⟨V, hV⟩ : ∃ V, nnsE l = V := ⟨_, rfl⟩
  rw [hV]
  have HV := Lib.hid hV.symm
  unfold nnsE at HV
  rw [hn] at HV
  have HN := Lib.hid hn
  have HI := Lib.hid hI
  have HOK := Lib.hid hok
  clear hV hn hI hok
  by_cases h10 : 30 < n
  · obtain rfl : V = 2 := HV.out.trans (if_pos h10)
    have hd : decide (30 < n) = true := decide_eq_true h10
    go_enter Tryz.func80, Tryz.ntmps80
    go_wp2_with fail
    go_ret
    exact ⟨rfl, Below.refl _ _⟩
  · have HV0 := Lib.hid (show V = goE (nnE l) (n - 0) 0 from HV.out.trans (if_neg h10))
    have hd : decide (30 < n) = false := decide_eq_false h10
    clear HV
    go_enter Tryz.func80, Tryz.ntmps80
    go_wp2_with fail
    go_loopw [10] (fun i wr => ∃ k : Nat, k ≤ n ∧ i = .int .i64 k ∧ Below w.heap.size w wr ∧ Hid (V = goE (nnE l) (n - k) k)) (fun i _ => n - (intOf i).toNat)
    case atStart => exact ⟨0, Nat.zero_le _, rfl, Below.refl _ _, HV0⟩
    case round =>
      obtain ⟨k, hk, rfl, hB0, hH⟩ := hrel
      by_cases hlt : k < n
      · have hkl : k < l.length := by have := HN.out; omega
        have hRI := HI.out.below hB0
        obtain ⟨p, off, rfl, hp, c0, c1, c2⟩ := hRI.at3n hkl
        obtain ⟨ok1, ok2⟩ := HOK.out l[k] (List.getElem_mem hkl)
        have HST := Lib.hid (show V = if nnE l k = 0 then goE (nnE l) (n - (k + 1)) (k + 1) else nnE l k from hH.out.trans (goE_step (nnE l) n k hlt))
        have HT := Lib.hid (show nnE l k = ndX (keyB (l.getD k default).name) (decide (1 ≤ (l.getD k default).kind ∧ (l.getD k default).kind ≤ 4)) (decide (0 < k) && leN (l.getD k default).name (l.getD (k - 1) default).name) from rfl)
        rw [getN l k hkl] at HT
        have HPV := Lib.hid (fun h0 : 0 < k => prevN hRI h0 hkl)
        clear hRI
        generalize l[k] = x at *
        obtain ⟨name, kind, must⟩ := x
        simp only at c0 c1 c2 ok1 HT
        have CK := Lib.hid (fun w => isKey_any name w (by unfold maxLen; omega))
        obtain ⟨b1, hb1⟩ : ∃ b, keyB name = b := ⟨_, rfl⟩
        obtain ⟨b2, hb2⟩ : ∃ b, decide (1 ≤ kind ∧ kind ≤ 4) = b := ⟨_, rfl⟩
        have CW := Lib.hid (fun w => ewithinB kind 1 4 b2 hb2 w)
        rw [hb1, hb2] at HT
        rw [hb1] at CK
        have HB := Lib.hid (hB0.alloc hB0.size (.cells #[.string name, .int .i64 kind, .bool must] 61))
        clear hb1 hb2 hH hB0
        go_wp2_with fail
        with_reducible refine (CK.out _).mono ?_
        rintro e w1 ⟨rfl, rfl⟩
        cases b1 with
        | false =>
          have HR := Lib.hid (HST.out.trans (show _ = (5 : Int) by rw [HT.out]; simp [ndX]))
          clear CW CK HPV
          go_wp2_with fail
          go_ret
          exact ⟨ret_int HR.out.symm, HB.out⟩
        | true =>
          go_wp2_with fail
          with_reducible refine (CW.out _).mono ?_
          rintro e w1 ⟨rfl, rfl⟩
          cases b2 with
          | false =>
            have HR := Lib.hid (HST.out.trans (show _ = (4 : Int) by rw [HT.out]; simp [ndX]))
            clear CW CK HPV
            go_wp2_with fail
            go_ret
            exact ⟨ret_int HR.out.symm, HB.out⟩
          | true =>
            by_cases hk0 : 0 < k
            · obtain ⟨y, hy, cy0⟩ := HPV.out hk0
              rw [hy] at HT
              have hd0 : decide (0 < (k : Int)) = true := by simp; omega
              have cy := (World.cell?_alloc_lt _ (.cells #[.string name, .int .i64 kind, .bool must] 61) _ hp).trans cy0
              have hsp : (Op.bytesLess name.toList y.toList || name.toList == y.toList) = leN name y := rfl
              obtain ⟨b3, hb3⟩ : ∃ b, leN name y = b := ⟨_, rfl⟩
              rw [hb3] at HT hsp
              clear hb3 hy cy0 HPV CK CW
              cases b3 with
              | true =>
                have HR := Lib.hid (HST.out.trans (show _ = (7 : Int) by rw [HT.out]; simp [ndX, hk0]))
                go_wp2_with fail
                go_quiet (fail)
                go_wp2_with fail
                go_ret
                exact ⟨ret_int HR.out.symm, below_drewN HB.out _⟩
              | false =>
                have HR := Lib.hid (HST.out.trans (show _ = goE (nnE l) (n - (k + 1)) (k + 1) by rw [HT.out, ndX_ok rfl rfl (by simp), if_pos rfl]))
                go_wp2_with fail
                go_quiet (fail)
                go_wp2_with fail
                go_roundw
                case rel => exact ⟨k + 1, by omega, by go_num, below_drewN HB.out _, HR⟩
                case measure => simp [intOf]; omega
            · have hd0 : decide (0 < (k : Int)) = false := by simp; omega
              have HR := Lib.hid (HST.out.trans (show _ = goE (nnE l) (n - (k + 1)) (k + 1) by rw [HT.out, ndX_ok rfl rfl (by simp; omega), if_pos rfl]))
              clear HPV CK CW
              go_wp2_with fail
              go_quiet (fail)
              go_wp2_with fail
              go_roundw
              case rel => exact ⟨k + 1, by omega, by go_num, below_drewN HB.out _, HR⟩
              case measure => simp [intOf]; omega
      · have HE := Lib.hid (hH.out.trans (show _ = (0 : Int) by rw [show n - k = 0 by omega]; rfl))
        have HB := Lib.hid hB0
        clear hH hB0
        go_wp2_with fail
        go_ret
        exact ⟨ret_int HE.out.symm, HB.out⟩

set_option maxRecDepth 100000 in
set_option maxHeartbeats 8000000 in
theorem CheckSchemas_any (a : Option Addr) (l : List Sm) (n c : Nat) (w : World) (hn : l.length = n) (hI : SmL w a l) :
    Calls Tryz.prog 37 #[.slice a n c] w (IntO w (smsE l)) := by
  have hn1 : n ≤ 1000 := by have := hI.len; omega
  obtain ⟨V, hV⟩ : ∃ V, smsE l = V := ⟨_, rfl⟩
  rw [hV]
  have HV := Lib.hid hV.symm
  unfold smsE at HV
  rw [hn] at HV
  have HN := Lib.hid hn
  have HI := Lib.hid hI
  clear hV hn hI
  by_cases h10 : 60 < n
  · obtain rfl : V = 2 := HV.out.trans (if_pos h10)
    have hd : decide (60 < n) = true := decide_eq_true h10
    go_enter Tryz.func37, Tryz.ntmps37
    go_wp2_with fail
    go_ret
    exact ⟨rfl, Below.refl _ _⟩
  · have HV0 := Lib.hid (show V = goE (smE l) (n - 0) 0 from HV.out.trans (if_neg h10))
    have hd : decide (60 < n) = false := decide_eq_false h10
    clear HV
    go_enter Tryz.func37, Tryz.ntmps37
    go_wp2_with fail
    go_loopw [11] (fun i wr => ∃ k : Nat, k ≤ n ∧ i = .int .i64 k ∧ Below w.heap.size w wr ∧ Hid (V = goE (smE l) (n - k) k)) (fun i _ => n - (intOf i).toNat)
    case atStart => exact ⟨0, Nat.zero_le _, rfl, Below.refl _ _, HV0⟩
    case round =>
      obtain ⟨k, hk, rfl, hB0, hH⟩ := hrel
      by_cases hlt : k < n
      · have hkl : k < l.length := by have := HN.out; omega
        have hRI := (HI.out.below hB0).row
        obtain ⟨p, off, rfl, hp, c0, c1⟩ := hRI.at2s hkl
        obtain ⟨ok1, ok2, ok3, ok4⟩ := (HI.out.below hB0).ok l[k] (List.getElem_mem hkl)
        have HST := Lib.hid (show V = if smE l k = 0 then goE (smE l) (n - (k + 1)) (k + 1) else smE l k from hH.out.trans (goE_step (smE l) n k hlt))
        have HT := Lib.hid (show smE l k = if keyB (l.getD k default).name = false then 5 else if (decide (0 < k) && leN (l.getD k default).name (l.getD (k - 1) default).name) = true then 7 else nnsE (l.getD k default).needs from rfl)
        rw [getM l k hkl] at HT
        have HPV := Lib.hid (fun h0 : 0 < k => prevM hRI h0 hkl)
        clear hRI
        generalize l[k] = x at *
        obtain ⟨name, na, nc, needs⟩ := x
        simp only at c0 c1 ok1 ok2 ok3 ok4 HT
        have CK := Lib.hid (fun w => isKey_any name w (by unfold maxLen; omega))
        have CN := Lib.hid (fun w h => checkNeeds_any na needs needs.length nc w rfl ok2.len h ok2.ok)
        obtain ⟨b1, hb1⟩ : ∃ b, keyB name = b := ⟨_, rfl⟩
        obtain ⟨e5, he5⟩ : ∃ z, nnsE needs = z := ⟨_, rfl⟩
        obtain ⟨nn, hnn⟩ : ∃ z, needs.length = z := ⟨_, rfl⟩
        rw [hb1, he5] at HT
        rw [hb1] at CK
        rw [he5, hnn] at CN
        rw [hnn] at c1
        have HB := Lib.hid (hB0.alloc hB0.size (.cells #[.string name, .slice na nn nc] 67))
        have HNR := Lib.hid (ok2.row.alloc (.cells #[.string name, .slice na nn nc] 67))
        clear hb1 hH hB0 he5 hnn ok2 ok3 ok4
        go_wp2_with fail
        with_reducible refine (CK.out _).mono ?_
        rintro e w1 ⟨rfl, rfl⟩
        cases b1 with
        | false =>
          have HR := Lib.hid (HST.out.trans (show _ = (5 : Int) by rw [HT.out]; simp))
          clear CN CK HPV
          go_wp2_with fail
          go_ret
          exact ⟨ret_int HR.out.symm, HB.out⟩
        | true =>
          have HX := Lib.hid (XB.new wr [.string name, .slice na nn nc] 67)
          rw [if_neg (show ¬ true = false by decide)] at HT
          have key : ∃ b3 : Bool, (decide (0 < k) && leN name (l.getD (k - 1) default).name) = b3 := ⟨_, rfl⟩
          obtain ⟨b3, hb3⟩ := key
          rw [hb3] at HT
          by_cases hk0 : 0 < k
          · obtain ⟨y, hy, cy0⟩ := HPV.out hk0
            rw [hy, decide_eq_true hk0, Bool.true_and] at hb3
            have hd0 : decide (0 < (k : Int)) = true := by simp; omega
            have cy := (World.cell?_alloc_lt _ (.cells #[.string name, .slice na nn nc] 67) _ hp).trans cy0
            have hsp : (Op.bytesLess name.toList y.toList || name.toList == y.toList) = b3 := hb3
            clear hb3 hy cy0 HPV CK
            cases b3 with
            | true =>
              have HR := Lib.hid (HST.out.trans (show _ = (7 : Int) by rw [HT.out, if_pos rfl]; simp))
              go_wp2_with fail
              go_quiet (fail)
              go_wp2_with fail
              go_ret
              exact ⟨ret_int HR.out.symm, below_drewN HB.out _⟩
            | false =>
              rw [if_neg (show ¬ false = true by decide)] at HT
              go_wp2_with fail
              go_quiet (fail)
              have HB3 := Lib.hid (below_drewN HB.out nq)
              have HX3 := Lib.hid (HX.out.drewN nq)
              have HN3 := Lib.hid (rat_drewN HNR.out nq)
              clear HB HX HNR
              generalize hwq : (World.drewN _ nq) = wq at *
              have x1 := HX3.out.2 1 _ rfl
              clear hwq
              go_wp2_with fail
              with_reducible refine (CN.out _ HN3.out).mono ?_
              rintro e w4 ⟨rfl, b4⟩
              have HB4 := Lib.hid (HB3.out.trans (b4.mono HB3.out.size))
              clear b4 HB3 HN3 HX3 x1
              by_cases h5 : e5 = 0
              · subst h5
                have HR := Lib.hid (HST.out.trans (show _ = goE (smE l) (n - (k + 1)) (k + 1) by rw [HT.out, if_pos rfl]))
                go_wp2_with fail
                go_roundw
                case rel => exact ⟨k + 1, by omega, by go_num, HB4.out, HR⟩
                case measure => simp [intOf]; omega
              · have h6 : (e5 != 0) = true := by simpa using h5
                have HR := Lib.hid (HST.out.trans (show _ = e5 by rw [HT.out, if_neg h5]))
                go_wp2_with fail
                go_ret
                exact ⟨ret_int HR.out.symm, HB4.out⟩
          · have hd0 : decide (0 < (k : Int)) = false := by simp; omega
            obtain rfl : b3 = false := hb3.symm.trans (by rw [decide_eq_false hk0, Bool.false_and])
            rw [if_neg (show ¬ false = true by decide)] at HT
            clear HPV CK hb3
            go_wp2_with fail
            go_quiet (fail)
            have HB3 := Lib.hid (below_drewN HB.out nq)
            have HX3 := Lib.hid (HX.out.drewN nq)
            have HN3 := Lib.hid (rat_drewN HNR.out nq)
            clear HB HX HNR
            generalize hwq : (World.drewN _ nq) = wq at *
            have x1 := HX3.out.2 1 _ rfl
            clear hwq
            go_wp2_with fail
            with_reducible refine (CN.out _ HN3.out).mono ?_
            rintro e w4 ⟨rfl, b4⟩
            have HB4 := Lib.hid (HB3.out.trans (b4.mono HB3.out.size))
            clear b4 HB3 HN3 HX3 x1
            by_cases h5 : e5 = 0
            · subst h5
              have HR := Lib.hid (HST.out.trans (show _ = goE (smE l) (n - (k + 1)) (k + 1) by rw [HT.out, if_pos rfl]))
              go_wp2_with fail
              go_roundw
              case rel => exact ⟨k + 1, by omega, by go_num, HB4.out, HR⟩
              case measure => simp [intOf]; omega
            · have h6 : (e5 != 0) = true := by simpa using h5
              have HR := Lib.hid (HST.out.trans (show _ = e5 by rw [HT.out, if_neg h5]))
              go_wp2_with fail
              go_ret
              exact ⟨ret_int HR.out.symm, HB4.out⟩
      · have HE := Lib.hid (hH.out.trans (show _ = (0 : Int) by rw [show n - k = 0 by omega]; rfl))
        have HB := Lib.hid hB0
        clear hH hB0
        go_wp2_with fail
        go_ret
        exact ⟨ret_int HE.out.symm, HB.out⟩
end Go.Proofs.YtfdpfkdfglombaaGreatDoor
/- Does a condition suit records and schemas: segment.suits (printed by gen_tysu.py). -/
set_option linter.unusedVariables false
namespace Go.Proofs.YtfdpfkdfglombaaGreatDoor
open Go.RowKit

theorem fndG_kind {l : List Nn} {k : ByteArray} {nm : ByteArray} {nk : Int} {mu : Bool} (h : fndG Nn.name l k = some ⟨nm, nk, mu⟩) : kdE l k = nk := by unfold kdE; rw [h]; rfl
theorem fndG_zero {l : List Nn} {k : ByteArray} (h : fndG Nn.name l k = none) : kdE l k = 0 := by unfold kdE; rw [h]; rfl
theorem kind_pos {l : List Nn} {k : ByteArray} {nm : ByteArray} {nk : Int} {mu : Bool} (hr : RgN l) (h : fndG Nn.name l k = some ⟨nm, nk, mu⟩) : nk ≠ 0 := by
  have := hr.1 _ (fndG_mem h).1
  simp only at this
  omega

theorem ofRecord_any (kind : Int) (a1 a2 a3 a4 a5 a6 a7 a8 : Value) (b : Bool) (hb : decide (6 ≤ kind ∧ kind ≤ 10) = b) (w : World) :
    Calls Tryz.prog 53 #[.agg #[.int .i64 kind, a1, a2, a3, a4, a5, a6, a7, a8]] w fun e w' => e = .returned (.bool b) ∧ Below w.heap.size w w' := by
  have C := Lib.hid (fun w => swithinB kind 6 10 b hb w)
  clear hb
  go_enter Tryz.func53, Tryz.ntmps53
  go_wp2_with fail
  with_reducible refine (C.out _).mono ?_
  rintro e w1 ⟨rfl, rfl⟩
  go_wp2_with fail
  go_ret
  exact ⟨rfl, (Below.refl _ _).alloc (Nat.le_refl _) _⟩

theorem ofEvents_any (kind : Int) (a1 a2 a3 a4 a5 a6 a7 a8 : Value) (b : Bool) (hb : decide (11 ≤ kind ∧ kind ≤ 14) = b) (w : World) :
    Calls Tryz.prog 54 #[.agg #[.int .i64 kind, a1, a2, a3, a4, a5, a6, a7, a8]] w fun e w' => e = .returned (.bool b) ∧ Below w.heap.size w w' := by
  have C := Lib.hid (fun w => swithinB kind 11 14 b hb w)
  clear hb
  go_enter Tryz.func54, Tryz.ntmps54
  go_wp2_with fail
  with_reducible refine (C.out _).mono ?_
  rintro e w1 ⟨rfl, rfl⟩
  go_wp2_with fail
  go_ret
  exact ⟨rfl, (Below.refl _ _).alloc (Nat.le_refl _) _⟩

set_option maxRecDepth 100000 in
set_option maxHeartbeats 16000000 in
theorem suits_any (x : Nd) (na : Nat) (fa : Option Addr) (f : List Nn) (nf fc : Nat) (sa : Option Addr) (l : List Sm) (ns sc : Nat) (w : World) (hok : x.ok)
    (hV : RAt w x.va 3 Vl.cells x.vals) (hW : RAt w x.wa 5 Wh.cells x.whs) (hF : NnL w fa f) (hnf : f.length = nf) (hS : SmL w sa l) (hns : l.length = ns) (rF : RgN f) (rS : RgS l) :
    Calls Tryz.prog 40 #[.agg #[.int .i64 x.kind, .string x.name, .string x.field, .string x.sign, .slice x.va x.vals.length x.vc, .slice x.wa x.whs.length x.wc, .int .i64 x.within, .int .i64 x.number, .slice x.aa na x.ac], .slice fa nf fc, .slice sa ns sc] w (IntO w (suE f l x)) := by
  obtain ⟨o1, o2, o3, o4, ⟨o5, o6, o7⟩, ⟨o8, o9, o10⟩, o11, o12, o13, o14⟩ := hok
  obtain ⟨R, hR⟩ : ∃ z, suE f l x = z := ⟨_, rfl⟩
  rw [hR]
  have HR := Lib.hid hR.symm
  unfold suE at HR
  have CNF := Lib.hid (fun k w h => need_any fa f nf fc k w hnf (by have := hF.len; omega) h rF.2)
  have CSS := Lib.hid (fun k w h => schema_any sa l ns sc k w hns (by have := hS.len; omega) h rS.2)
  have HF := Lib.hid hF
  have HS := Lib.hid hS
  have HV := Lib.hid hV
  have HW := Lib.hid hW
  have HRF := Lib.hid rF
  have HRS := Lib.hid rS
  clear hR hV hW hF hS rF rS o1 o2 o3 o4 o11 o12 o13 o14 hnf hns
  obtain ⟨kind, name, field, sign, va, vc, vals, wa, wc, whs, within, number, aa, ac⟩ := x
  simp only at *
  obtain ⟨nv, hnv⟩ : ∃ z, vals.length = z := ⟨_, rfl⟩
  obtain ⟨nw, hnw⟩ : ∃ z, whs.length = z := ⟨_, rfl⟩
  rw [hnv] at o5 o7
  rw [hnw] at o8 o10
  rw [hnv, hnw]
  have HNV := Lib.hid hnv
  have HNW := Lib.hid hnw
  clear hnv hnw
  obtain ⟨b1, hb1⟩ : ∃ b, decide (6 ≤ kind ∧ kind ≤ 10) = b := ⟨_, rfl⟩
  obtain ⟨b2, hb2⟩ : ∃ b, decide (11 ≤ kind ∧ kind ≤ 14) = b := ⟨_, rfl⟩
  have CR := Lib.hid (fun a1 a2 a3 a4 a5 a6 a7 a8 w => ofRecord_any kind a1 a2 a3 a4 a5 a6 a7 a8 b1 hb1 w)
  have CE := Lib.hid (fun a1 a2 a3 a4 a5 a6 a7 a8 w => ofEvents_any kind a1 a2 a3 a4 a5 a6 a7 a8 b2 hb2 w)
  have HX0 := Lib.hid (XB.new w [.int .i64 kind, .string name, .string field, .string sign, .slice va nv vc, .slice wa nw wc, .int .i64 within, .int .i64 number, .slice aa na ac] 30)
  have HB0 := Lib.hid ((Below.refl w.heap.size w).alloc (Nat.le_refl _) (.cells #[.int .i64 kind, .string name, .string field, .string sign, .slice va nv vc, .slice wa nw wc, .int .i64 within, .int .i64 number, .slice aa na ac] 30))
  go_enter Tryz.func40, Tryz.ntmps40
  go_wp2_with fail
  ((with_reducible refine (CR.out _ _ _ _ _ _ _ _ _).mono ?_); rintro e w1 ⟨rfl, hb⟩)
  have HX1 := Lib.hid (HX0.out.below hb)
  have HB1 := Lib.hid (HB0.out.trans (hb.mono HB0.out.size))
  clear hb HX0 HB0 CR
  generalize w.heap.size = q0 at HX1 ⊢
  cases b1 with
  | true =>
    have hk := of_decide_eq_true hb1
    obtain rfl : b2 = false := hb2.symm.trans (decide_eq_false (by omega))
    have HR1 := Lib.hid (HR.out.trans (if_pos hk))
    unfold rcE at HR1
    simp only at HR1
    have x1 := HX1.out.2 1 _ rfl
    have HF1 := Lib.hid (HF.out.row.below HB1.out)
    clear HR CSS hb1 hb2 hk
    go_wp2_with fail
    clear x1
    ((with_reducible refine (CNF.out _ _ HF1.out).mono ?_); rintro e w2 ⟨⟨nm, nk, mu, b, rfl, h⟩, hb⟩)
    have HX2 := Lib.hid ((HX1.out.below hb).alloc (.cells #[.string nm, .int .i64 nk, .bool mu] 61))
    have HB2 := Lib.hid ((HB1.out.trans (hb.mono HB1.out.size)).alloc ((HB1.out.trans (hb.mono HB1.out.size)).size) (.cells #[.string nm, .int .i64 nk, .bool mu] 61))
    have HXn := Lib.hid (XB.new w2 [.string nm, .int .i64 nk, .bool mu] 61)
    clear hb HX1 HB1 HF1 CNF
    rcases h with ⟨rfl, hf⟩ | ⟨rfl, hf⟩
    · have hz := kind_pos HRF.out hf
      have hkd := fndG_kind hf
      have HR2 : Hid (R = if vals.any (othB nk) = true then 10 else 0) := Lib.hid (by
        have h := HR1.out
        rw [hkd, if_neg hz] at h
        exact h)
      obtain ⟨b4, hb4⟩ : ∃ b, vals.any (othB nk) = b := ⟨_, rfl⟩
      rw [hb4] at HR2
      have CH := Lib.hid (fun q w h1 h2 => suitHas_any va vals nv vc q nk w HNV.out o7 h1 h2)
      rw [hb4] at CH
      have HV2 := Lib.hid (HV.out.below HB2.out)
      have x4 := HX2.out.2 4 _ rfl
      have xn1 := HXn.out.2 1 _ rfl
      clear hb4 HR1 hf hkd hz
      go_wp2_with fail
      clear x4
      ((with_reducible refine (CH.out _ _ HV2.out xn1).mono ?_); rintro e w3 ⟨rfl, hb⟩)
      have HX3 := Lib.hid (HX2.out.below hb)
      have HB3 := Lib.hid (HB2.out.trans (hb.mono HB2.out.size))
      clear hb HX2 HB2 HV2 xn1 CH HXn
      cases b4 with
      | true =>
        have HR3 := Lib.hid (HR2.out.trans (if_pos rfl))
        go_wp2_with fail
        go_ret
        exact ⟨ret_int HR3.out.symm, HB3.out⟩
      | false =>
        have HR3 := Lib.hid (HR2.out.trans (if_neg (by decide)))
        have x0 := HX3.out.2 0 _ rfl
        have x1 := HX3.out.2 1 _ rfl
        have x2 := HX3.out.2 2 _ rfl
        have x3 := HX3.out.2 3 _ rfl
        have x4 := HX3.out.2 4 _ rfl
        have x5 := HX3.out.2 5 _ rfl
        have x6 := HX3.out.2 6 _ rfl
        have x7 := HX3.out.2 7 _ rfl
        have x8 := HX3.out.2 8 _ rfl
        have xl := HX3.out.1
        go_wp2_with fail
        clear x0 x1 x2 x3 x4 x5 x6 x7 x8 xl
        ((with_reducible refine (CE.out _ _ _ _ _ _ _ _ _).mono ?_); rintro e w4 ⟨rfl, hb⟩)
        have HB4 := Lib.hid (HB3.out.trans (hb.mono HB3.out.size))
        clear hb
        go_wp2_with fail
        go_ret
        exact ⟨ret_int HR3.out.symm, HB4.out⟩
    · have HR2 : Hid (R = 8) := Lib.hid (HR1.out.trans (if_pos (fndG_zero hf)))
      clear hf HR1
      go_wp2_with fail
      go_ret
      exact ⟨ret_int HR2.out.symm, HB2.out⟩
  | false =>
    have hk := of_decide_eq_false hb1
    have HR1 := Lib.hid (HR.out.trans (if_neg hk))
    clear HR CNF hb1 hk
    have x0 := HX1.out.2 0 _ rfl
    have x1 := HX1.out.2 1 _ rfl
    have x2 := HX1.out.2 2 _ rfl
    have x3 := HX1.out.2 3 _ rfl
    have x4 := HX1.out.2 4 _ rfl
    have x5 := HX1.out.2 5 _ rfl
    have x6 := HX1.out.2 6 _ rfl
    have x7 := HX1.out.2 7 _ rfl
    have x8 := HX1.out.2 8 _ rfl
    have xl := HX1.out.1
    go_wp2_with fail
    clear x0 x1 x2 x3 x4 x5 x6 x7 x8 xl
    ((with_reducible refine (CE.out _ _ _ _ _ _ _ _ _).mono ?_); rintro e w2 ⟨rfl, hb⟩)
    have HX2 := Lib.hid (HX1.out.below hb)
    have HB2 := Lib.hid (HB1.out.trans (hb.mono HB1.out.size))
    clear hb HX1 HB1 CE
    cases b2 with
    | false =>
      have HR2 := Lib.hid (HR1.out.trans (if_neg (of_decide_eq_false hb2)))
      clear hb2
      go_wp2_with fail
      go_ret
      exact ⟨ret_int HR2.out.symm, HB2.out⟩
    | true =>
      have hk := of_decide_eq_true hb2
      have HR2 := Lib.hid (HR1.out.trans (if_pos hk))
      unfold evE at HR2
      simp only at HR2
      have x1 := HX2.out.2 1 _ rfl
      have HS2 := Lib.hid (HS.out.row.below HB2.out)
      clear HR1 hb2
      go_wp2_with fail
      clear x1
      ((with_reducible refine (CSS.out _ _ HS2.out).mono ?_); rintro e w3 ⟨⟨snm, sna, snc, snn, sneeds, b, hsnn, rfl, h⟩, hb⟩)
      have HX := Lib.hid ((HX2.out.below hb).alloc (.cells #[.string snm, .slice sna snn snc] 67))
      have HB := Lib.hid ((HB2.out.trans (hb.mono HB2.out.size)).alloc ((HB2.out.trans (hb.mono HB2.out.size)).size) (.cells #[.string snm, .slice sna snn snc] 67))
      have HX9 := Lib.hid (XB.new w3 [.string snm, .slice sna snn snc] 67)
      simp only [List.toArray] at HX9
      clear hb HX2 HB2 HS2
      rcases h with ⟨rfl, hf⟩ | ⟨rfl, hf⟩
      · rw [hf] at HR2
        simp only at HR2
        have hmem := (fndG_mem hf).1
        have HSN0 := Lib.hid (HS.out.ok _ hmem)
        have HSG : Hid (RgN sneeds) := Lib.hid (HRS.out.1 _ hmem)
        have HSR : Hid (RAt w sna 3 Nn.cells sneeds) := Lib.hid HSN0.out.2.1.row
        have CNW := Lib.hid (fun k w h => need_any sna sneeds snn snc k w hsnn (by have := HSN0.out.2.1.len; simp only at this; omega) h HSG.out.2)
        clear hf hmem HSN0 hsnn
        obtain ⟨q9, hq9⟩ : ∃ z, w3.heap.size = z := ⟨_, rfl⟩
        rw [hq9] at HX9
        go_upto_region 12 with (fail)
        try rw [hq9]
        clear hq9
        generalize w3.alloc (.cells #[.string snm, .slice sna snn snc] 67) = w4 at *
        by_cases h14 : kind = 14
        · subst h14
          rw [if_neg (show ¬ ((14 : Int) = 12 ∧ kdE sneeds field = 0) by omega), if_neg (show ¬ ((14 : Int) = 12 ∧ kdE sneeds field = 1) by omega)] at HR2
          have x0 := HX.out.2 0 _ rfl
          have x2 := HX.out.2 2 _ rfl
          have HS4 := Lib.hid (HS.out.row.below HB.out)
          go_wp2_with fail
          clear x0 x2
          ((with_reducible refine (CSS.out _ _ HS4.out).mono ?_); rintro e w5 ⟨⟨tnm, tna, tnc, tnn, tneeds, b, htnn, rfl, h⟩, hb⟩)
          have HX5 := Lib.hid ((HX.out.below hb).alloc (.cells #[.string tnm, .slice tna tnn tnc] 67))
          have HX95 := Lib.hid ((HX9.out.below hb).alloc (.cells #[.string tnm, .slice tna tnn tnc] 67))
          have HB5 := Lib.hid ((HB.out.trans (hb.mono HB.out.size)).alloc ((HB.out.trans (hb.mono HB.out.size)).size) (.cells #[.string tnm, .slice tna tnn tnc] 67))
          clear hb HX HX9 HB HS4 htnn CSS
          rcases h with ⟨rfl, hf⟩ | ⟨rfl, hf⟩
          · have HR0 : Hid (R = fstE (wtE sneeds) (whs.drop 0)) := Lib.hid (HR2.out.trans (if_neg (by rw [hf]; simp)))
            have HX := HX5
            have HX9 := HX95
            have HB := HB5
            have x0 := HX.out.2 0 _ rfl
            clear hf HR2 HX5 HX95 HB5
            go_upto_region 22 with (fail)
            clear x0
            have HW9 := Lib.hid (HW.out.below HB.out)
            have x5 := HX.out.2 5 _ rfl
            go_wp2_with fail
            clear x5
            go_loopw [79] (fun i wr => ∃ j : Nat, j ≤ nw ∧ i = .int .i64 j ∧ Below w.heap.size w wr ∧ XB wr q9 [.string snm, .slice sna snn snc] ∧ Hid (R = fstE (wtE sneeds) (whs.drop j))) (fun i _ => nw - (intOf i).toNat)
            case atStart => exact ⟨0, Nat.zero_le _, rfl, HB.out, HX9.out, HR0⟩
            case round =>
              obtain ⟨j, hj, rfl, hBr, hX9, HRr⟩ := hrel
              have HBr := Lib.hid hBr
              have HX9r := Lib.hid hX9
              clear hBr hX9 HX9 HX HB
              by_cases hlt : j < nw
              · have hjl : j < whs.length := by have := HNW.out; omega
                obtain ⟨pw, offw, rfl, hpw, d0, d1, d2, d3, d4⟩ := (HW.out.below HBr.out).at5w hjl
                have HD := Lib.hid (HRr.out.trans (fstE_drop (wtE sneeds) whs j hjl))
                generalize whs[j] = y at *
                obtain ⟨yf, ys, yv⟩ := y
                obtain ⟨yk, yt, yn⟩ := yv
                simp only at d0 d1 d2 d3 d4 HD
                have HBa := Lib.hid (HBr.out.alloc HBr.out.size (.cells #[.string yf, .string ys, .int .i64 yk, .string yt, .int .i64 yn] 98))
                have HX9a := Lib.hid (HX9r.out.alloc (.cells #[.string yf, .string ys, .int .i64 yk, .string yt, .int .i64 yn] 98))
                have HXw := Lib.hid (XB.new wr [.string yf, .string ys, .int .i64 yk, .string yt, .int .i64 yn] 98)
                have HSN := Lib.hid (HSR.out.below HBa.out)
                have x91 := HX9a.out.2 1 _ rfl
                clear HX9r HBr
                go_wp2_with fail
                ((with_reducible refine (CNW.out _ _ HSN.out).mono ?_); rintro e w7 ⟨⟨nm, nk, mu, b, rfl, h⟩, hb⟩)
                have HB7 := Lib.hid ((HBa.out.trans (hb.mono HBa.out.size)).alloc ((HBa.out.trans (hb.mono HBa.out.size)).size) (.cells #[.string nm, .int .i64 nk, .bool mu] 61))
                have HX97 := Lib.hid ((HX9a.out.below hb).alloc (.cells #[.string nm, .int .i64 nk, .bool mu] 61))
                have HXw7 := Lib.hid ((HXw.out.below hb).alloc (.cells #[.string nm, .int .i64 nk, .bool mu] 61))
                clear x91 d0 d1 d2 d3 d4 hb HBa HX9a HXw HSN hpw
                rcases h with ⟨rfl, hf⟩ | ⟨rfl, hf⟩
                · have hz := kind_pos HSG.out hf
                  have hkd := fndG_kind hf
                  clear hf
                  by_cases hk : nk = yk
                  · have hA : (nk != yk) = false := by simpa using hk
                    have HRn := Lib.hid (HD.out.trans (if_pos (show wtE sneeds ⟨yf, ys, ⟨yk, yt, yn⟩⟩ = 0 by unfold wtE; simp only; rw [hkd, if_neg hz, if_neg (by simpa using hk)])))
                    have xw2 := HXw7.out.2 2 _ rfl
                    clear HD hkd hz hk
                    go_wp2_with fail
                    go_roundw
                    case rel => exact ⟨j + 1, by omega, by go_num, HB7.out, HX97.out, HRn⟩
                    case measure => simp [intOf]; omega
                  · have hA : (nk != yk) = true := by simpa using hk
                    have HRn := Lib.hid (show R = 10 by
                      have e : wtE sneeds ⟨yf, ys, ⟨yk, yt, yn⟩⟩ = 10 := by unfold wtE; simp only; rw [hkd, if_neg hz, if_pos hk]
                      have h := HD.out
                      rw [e] at h
                      exact h.trans (if_neg (by decide)))
                    have xw2 := HXw7.out.2 2 _ rfl
                    clear HD hkd hz hk
                    go_wp2_with fail
                    go_ret
                    exact ⟨ret_int HRn.out.symm, HB7.out⟩
                · have hkd := fndG_zero hf
                  have HRn := Lib.hid (show R = 8 by
                    have e : wtE sneeds ⟨yf, ys, ⟨yk, yt, yn⟩⟩ = 8 := by unfold wtE; simp only; rw [if_pos hkd]
                    have h := HD.out
                    rw [e] at h
                    exact h.trans (if_neg (by decide)))
                  clear HD hkd hf
                  go_wp2_with fail
                  go_ret
                  exact ⟨ret_int HRn.out.symm, HB7.out⟩
              · have HZ := Lib.hid (show R = 0 by rw [HRr.out, List.drop_eq_nil_of_le (by have := HNW.out; omega)]; rfl)
                go_wp2_with fail
                go_ret
                exact ⟨ret_int HZ.out.symm, HBr.out⟩
          · have HR0 : Hid (R = 8) := Lib.hid (HR2.out.trans (if_pos ⟨by trivial, hf⟩))
            clear hf HR2
            go_wp2_with fail
            go_ret
            exact ⟨ret_int HR0.out.symm, HB5.out⟩
        · rw [if_neg (show ¬ (kind = 14 ∧ fndG Sm.name l field = none) from fun h => h14 h.1)] at HR2
          have hA14 : (kind == 14) = false := by simpa using h14
          by_cases h12 : kind = 12
          · subst h12
            have x0 := HX.out.2 0 _ rfl
            have x2 := HX.out.2 2 _ rfl
            have x91 := HX9.out.2 1 _ rfl
            have HSN := Lib.hid (HSR.out.below HB.out)
            clear hA14 h14
            go_wp2_with fail
            clear x0 x2 x91
            ((with_reducible refine (CNW.out _ _ HSN.out).mono ?_); rintro e w5 ⟨⟨nm, nk, mu, b, rfl, h⟩, hb⟩)
            have HX5 := Lib.hid ((HX.out.below hb).alloc (.cells #[.string nm, .int .i64 nk, .bool mu] 61))
            have HX95 := Lib.hid ((HX9.out.below hb).alloc (.cells #[.string nm, .int .i64 nk, .bool mu] 61))
            have HB5 := Lib.hid ((HB.out.trans (hb.mono HB.out.size)).alloc ((HB.out.trans (hb.mono HB.out.size)).size) (.cells #[.string nm, .int .i64 nk, .bool mu] 61))
            have HXn := Lib.hid (XB.new w5 [.string nm, .int .i64 nk, .bool mu] 61)
            clear hb HX HX9 HB HSN CSS
            rcases h with ⟨rfl, hf⟩ | ⟨rfl, hf⟩
            · have hz := kind_pos HSG.out hf
              have hkd := fndG_kind hf
              rw [hkd, if_neg (fun h => hz h.2)] at HR2
              have xn1 := HXn.out.2 1 _ rfl
              clear hf hkd hz
              by_cases h1 : nk = 1
              · subst h1
                have HR0 : Hid (R = 10) := Lib.hid (HR2.out.trans (if_pos ⟨by trivial, rfl⟩))
                go_wp2_with fail
                go_ret
                exact ⟨ret_int HR0.out.symm, HB5.out⟩
              · have HR0 : Hid (R = fstE (wtE sneeds) (whs.drop 0)) := Lib.hid (HR2.out.trans (if_neg fun h => h1 h.2))
                have hA1 : (nk == 1) = false := by simpa using h1
                have HX := HX5
                have HX9 := HX95
                have HB := HB5
                clear HR2 HX5 HX95 HB5 h1
                go_upto_region 22 with (fail)
                clear xn1 HXn hA1
                have HW9 := Lib.hid (HW.out.below HB.out)
                have x5 := HX.out.2 5 _ rfl
                go_wp2_with fail
                clear x5
                go_loopw [79] (fun i wr => ∃ j : Nat, j ≤ nw ∧ i = .int .i64 j ∧ Below w.heap.size w wr ∧ XB wr q9 [.string snm, .slice sna snn snc] ∧ Hid (R = fstE (wtE sneeds) (whs.drop j))) (fun i _ => nw - (intOf i).toNat)
                case atStart => exact ⟨0, Nat.zero_le _, rfl, HB.out, HX9.out, HR0⟩
                case round =>
                  obtain ⟨j, hj, rfl, hBr, hX9, HRr⟩ := hrel
                  have HBr := Lib.hid hBr
                  have HX9r := Lib.hid hX9
                  clear hBr hX9 HX9 HX HB
                  by_cases hlt : j < nw
                  · have hjl : j < whs.length := by have := HNW.out; omega
                    obtain ⟨pw, offw, rfl, hpw, d0, d1, d2, d3, d4⟩ := (HW.out.below HBr.out).at5w hjl
                    have HD := Lib.hid (HRr.out.trans (fstE_drop (wtE sneeds) whs j hjl))
                    generalize whs[j] = y at *
                    obtain ⟨yf, ys, yv⟩ := y
                    obtain ⟨yk, yt, yn⟩ := yv
                    simp only at d0 d1 d2 d3 d4 HD
                    have HBa := Lib.hid (HBr.out.alloc HBr.out.size (.cells #[.string yf, .string ys, .int .i64 yk, .string yt, .int .i64 yn] 98))
                    have HX9a := Lib.hid (HX9r.out.alloc (.cells #[.string yf, .string ys, .int .i64 yk, .string yt, .int .i64 yn] 98))
                    have HXw := Lib.hid (XB.new wr [.string yf, .string ys, .int .i64 yk, .string yt, .int .i64 yn] 98)
                    have HSN := Lib.hid (HSR.out.below HBa.out)
                    have x91 := HX9a.out.2 1 _ rfl
                    clear HX9r HBr
                    go_wp2_with fail
                    ((with_reducible refine (CNW.out _ _ HSN.out).mono ?_); rintro e w7 ⟨⟨nm, nk, mu, b, rfl, h⟩, hb⟩)
                    have HB7 := Lib.hid ((HBa.out.trans (hb.mono HBa.out.size)).alloc ((HBa.out.trans (hb.mono HBa.out.size)).size) (.cells #[.string nm, .int .i64 nk, .bool mu] 61))
                    have HX97 := Lib.hid ((HX9a.out.below hb).alloc (.cells #[.string nm, .int .i64 nk, .bool mu] 61))
                    have HXw7 := Lib.hid ((HXw.out.below hb).alloc (.cells #[.string nm, .int .i64 nk, .bool mu] 61))
                    clear x91 d0 d1 d2 d3 d4 hb HBa HX9a HXw HSN hpw
                    rcases h with ⟨rfl, hf⟩ | ⟨rfl, hf⟩
                    · have hz := kind_pos HSG.out hf
                      have hkd := fndG_kind hf
                      clear hf
                      by_cases hk : nk = yk
                      · have hA : (nk != yk) = false := by simpa using hk
                        have HRn := Lib.hid (HD.out.trans (if_pos (show wtE sneeds ⟨yf, ys, ⟨yk, yt, yn⟩⟩ = 0 by unfold wtE; simp only; rw [hkd, if_neg hz, if_neg (by simpa using hk)])))
                        have xw2 := HXw7.out.2 2 _ rfl
                        clear HD hkd hz hk
                        go_wp2_with fail
                        go_roundw
                        case rel => exact ⟨j + 1, by omega, by go_num, HB7.out, HX97.out, HRn⟩
                        case measure => simp [intOf]; omega
                      · have hA : (nk != yk) = true := by simpa using hk
                        have HRn := Lib.hid (show R = 10 by
                          have e : wtE sneeds ⟨yf, ys, ⟨yk, yt, yn⟩⟩ = 10 := by unfold wtE; simp only; rw [hkd, if_neg hz, if_pos hk]
                          have h := HD.out
                          rw [e] at h
                          exact h.trans (if_neg (by decide)))
                        have xw2 := HXw7.out.2 2 _ rfl
                        clear HD hkd hz hk
                        go_wp2_with fail
                        go_ret
                        exact ⟨ret_int HRn.out.symm, HB7.out⟩
                    · have hkd := fndG_zero hf
                      have HRn := Lib.hid (show R = 8 by
                        have e : wtE sneeds ⟨yf, ys, ⟨yk, yt, yn⟩⟩ = 8 := by unfold wtE; simp only; rw [if_pos hkd]
                        have h := HD.out
                        rw [e] at h
                        exact h.trans (if_neg (by decide)))
                      clear HD hkd hf
                      go_wp2_with fail
                      go_ret
                      exact ⟨ret_int HRn.out.symm, HB7.out⟩
                  · have HZ := Lib.hid (show R = 0 by rw [HRr.out, List.drop_eq_nil_of_le (by have := HNW.out; omega)]; rfl)
                    go_wp2_with fail
                    go_ret
                    exact ⟨ret_int HZ.out.symm, HBr.out⟩
            · have HR0 : Hid (R = 8) := Lib.hid (HR2.out.trans (if_pos ⟨by trivial, fndG_zero hf⟩))
              clear hf HR2 HXn
              go_wp2_with fail
              go_ret
              exact ⟨ret_int HR0.out.symm, HB5.out⟩
          · have hA12 : (kind == 12) = false := by simpa using h12
            have HR0 : Hid (R = fstE (wtE sneeds) (whs.drop 0)) := Lib.hid (by
              have h := HR2.out
              rw [if_neg (fun h => h12 h.1), if_neg (fun h => h12 h.1)] at h
              exact h)
            have x0 := HX.out.2 0 _ rfl
            clear HR2 CSS h12 h14
            go_upto_region 22 with (fail)
            clear x0 hA14 hA12
            have HW9 := Lib.hid (HW.out.below HB.out)
            have x5 := HX.out.2 5 _ rfl
            go_wp2_with fail
            clear x5
            go_loopw [79] (fun i wr => ∃ j : Nat, j ≤ nw ∧ i = .int .i64 j ∧ Below w.heap.size w wr ∧ XB wr q9 [.string snm, .slice sna snn snc] ∧ Hid (R = fstE (wtE sneeds) (whs.drop j))) (fun i _ => nw - (intOf i).toNat)
            case atStart => exact ⟨0, Nat.zero_le _, rfl, HB.out, HX9.out, HR0⟩
            case round =>
              obtain ⟨j, hj, rfl, hBr, hX9, HRr⟩ := hrel
              have HBr := Lib.hid hBr
              have HX9r := Lib.hid hX9
              clear hBr hX9 HX9 HX HB
              by_cases hlt : j < nw
              · have hjl : j < whs.length := by have := HNW.out; omega
                obtain ⟨pw, offw, rfl, hpw, d0, d1, d2, d3, d4⟩ := (HW.out.below HBr.out).at5w hjl
                have HD := Lib.hid (HRr.out.trans (fstE_drop (wtE sneeds) whs j hjl))
                generalize whs[j] = y at *
                obtain ⟨yf, ys, yv⟩ := y
                obtain ⟨yk, yt, yn⟩ := yv
                simp only at d0 d1 d2 d3 d4 HD
                have HBa := Lib.hid (HBr.out.alloc HBr.out.size (.cells #[.string yf, .string ys, .int .i64 yk, .string yt, .int .i64 yn] 98))
                have HX9a := Lib.hid (HX9r.out.alloc (.cells #[.string yf, .string ys, .int .i64 yk, .string yt, .int .i64 yn] 98))
                have HXw := Lib.hid (XB.new wr [.string yf, .string ys, .int .i64 yk, .string yt, .int .i64 yn] 98)
                have HSN := Lib.hid (HSR.out.below HBa.out)
                have x91 := HX9a.out.2 1 _ rfl
                clear HX9r HBr
                go_wp2_with fail
                ((with_reducible refine (CNW.out _ _ HSN.out).mono ?_); rintro e w7 ⟨⟨nm, nk, mu, b, rfl, h⟩, hb⟩)
                have HB7 := Lib.hid ((HBa.out.trans (hb.mono HBa.out.size)).alloc ((HBa.out.trans (hb.mono HBa.out.size)).size) (.cells #[.string nm, .int .i64 nk, .bool mu] 61))
                have HX97 := Lib.hid ((HX9a.out.below hb).alloc (.cells #[.string nm, .int .i64 nk, .bool mu] 61))
                have HXw7 := Lib.hid ((HXw.out.below hb).alloc (.cells #[.string nm, .int .i64 nk, .bool mu] 61))
                clear x91 d0 d1 d2 d3 d4 hb HBa HX9a HXw HSN hpw
                rcases h with ⟨rfl, hf⟩ | ⟨rfl, hf⟩
                · have hz := kind_pos HSG.out hf
                  have hkd := fndG_kind hf
                  clear hf
                  by_cases hk : nk = yk
                  · have hA : (nk != yk) = false := by simpa using hk
                    have HRn := Lib.hid (HD.out.trans (if_pos (show wtE sneeds ⟨yf, ys, ⟨yk, yt, yn⟩⟩ = 0 by unfold wtE; simp only; rw [hkd, if_neg hz, if_neg (by simpa using hk)])))
                    have xw2 := HXw7.out.2 2 _ rfl
                    clear HD hkd hz hk
                    go_wp2_with fail
                    go_roundw
                    case rel => exact ⟨j + 1, by omega, by go_num, HB7.out, HX97.out, HRn⟩
                    case measure => simp [intOf]; omega
                  · have hA : (nk != yk) = true := by simpa using hk
                    have HRn := Lib.hid (show R = 10 by
                      have e : wtE sneeds ⟨yf, ys, ⟨yk, yt, yn⟩⟩ = 10 := by unfold wtE; simp only; rw [hkd, if_neg hz, if_pos hk]
                      have h := HD.out
                      rw [e] at h
                      exact h.trans (if_neg (by decide)))
                    have xw2 := HXw7.out.2 2 _ rfl
                    clear HD hkd hz hk
                    go_wp2_with fail
                    go_ret
                    exact ⟨ret_int HRn.out.symm, HB7.out⟩
                · have hkd := fndG_zero hf
                  have HRn := Lib.hid (show R = 8 by
                    have e : wtE sneeds ⟨yf, ys, ⟨yk, yt, yn⟩⟩ = 8 := by unfold wtE; simp only; rw [if_pos hkd]
                    have h := HD.out
                    rw [e] at h
                    exact h.trans (if_neg (by decide)))
                  clear HD hkd hf
                  go_wp2_with fail
                  go_ret
                  exact ⟨ret_int HRn.out.symm, HB7.out⟩
              · have HZ := Lib.hid (show R = 0 by rw [HRr.out, List.drop_eq_nil_of_le (by have := HNW.out; omega)]; rfl)
                go_wp2_with fail
                go_ret
                exact ⟨ret_int HZ.out.symm, HBr.out⟩
      · rw [hf] at HR2
        simp only at HR2
        clear hf hsnn CSS
        go_wp2_with fail
        go_ret
        exact ⟨ret_int HR2.out.symm, HB.out⟩
end Go.Proofs.YtfdpfkdfglombaaGreatDoor
/- segment.walk over a function that looks at two boxes (printed by gen_tyw.py out of XSgL). -/
set_option linter.unusedVariables false
namespace Go.Proofs.YtfdpfkdfglombaaGreatDoor
open Go.RowKit

set_option maxRecDepth 100000 in
set_option maxHeartbeats 4000000 in
theorem walkE_any {q2 q3 : Nat} {f : Nd → Int} {C : World → Prop} (hC : ∀ w w', Below w.heap.size w w' → C w → C w')
    (CK : ∀ (x : Cn) (w : World), x.nd.ok → RAt w x.nd.va 3 Vl.cells x.nd.vals → RAt w x.nd.wa 5 Wh.cells x.nd.whs → C w → Calls Tryz.prog 39 #[x.agg, .pointer (some ⟨q2, 0, none⟩), .pointer (some ⟨q3, 0, none⟩)] w (IntO w (f x.nd))) :
    ∀ (d : Nat) (c : Cn) (w : World), TAt d w c → C w →
    Calls Tryz.prog 38 #[c.agg, .func (.func 39) #[] #[.pointer (some ⟨q2, 0, none⟩), .pointer (some ⟨q3, 0, none⟩)]] w (IntO w (wkT f d c))
  | 0, _, _, h, _ => h.elim
  | d + 1, c, w, ⟨hok, ⟨ha1, ha2, ha3'⟩, hV, hW, hA, hCC⟩, hT => by
    have ha3 := wdM_le ha3'
    clear ha3'
    have HI := Lib.hid (fun c w => walkE_any hC CK d c w)
    have HE := Lib.hid (show wkT f (d + 1) c = if f c.nd ≠ 0 then f c.nd else fstE (wkT f d) c.args from rfl)
    have C0 := Lib.hid (fun w h1 h2 h3 => CK c w hok h1 h2 h3)
    have HC0 := Lib.hid hC
    have HV := Lib.hid hV
    have HW := Lib.hid hW
    have HA := Lib.hid hA
    have HC := Lib.hid hCC
    have HT := Lib.hid hT
    unfold Cn.agg
    unfold Cn.agg at C0
    clear hok hV hW hA hCC hT ha1 ha2 CK hC
    obtain ⟨R, hR⟩ : ∃ z, wkT f (d + 1) c = z := ⟨_, rfl⟩
    obtain ⟨e0, he0⟩ : ∃ z, f c.nd = z := ⟨_, rfl⟩
    rw [hR, he0] at HE
    rw [he0] at C0
    rw [hR]
    clear hR he0
    obtain ⟨n, args⟩ := c
    obtain ⟨kind, name, field, sign, va, vc, vals, wa, wc, whs, within, number, aa, ac⟩ := n
    simp only [Cn.nd, Cn.args] at *
    obtain ⟨nv, hnv⟩ : ∃ z, vals.length = z := ⟨_, rfl⟩
    obtain ⟨nw, hnw⟩ : ∃ z, whs.length = z := ⟨_, rfl⟩
    obtain ⟨na, hna⟩ : ∃ z, args.length = z := ⟨_, rfl⟩
    rw [hnv, hnw, hna] at C0 ⊢
    rw [hna] at ha3
    have HNA := Lib.hid hna
    clear hnv hnw hna
    have HX := Lib.hid (XB.new w [.int .i64 kind, .string name, .string field, .string sign, .slice va nv vc, .slice wa nw wc, .int .i64 within, .int .i64 number, .slice aa na ac] 30)
    have HB := Lib.hid ((Below.refl w.heap.size w).alloc (Nat.le_refl _) (.cells #[.int .i64 kind, .string name, .string field, .string sign, .slice va nv vc, .slice wa nw wc, .int .i64 within, .int .i64 number, .slice aa na ac] 30))
    go_enter Tryz.func38, Tryz.ntmps38
    go_wp2_with fail
    ((with_reducible refine (C0.out _ (HV.out.below HB.out) (HW.out.below HB.out) (HC0.out _ _ HB.out HT.out)).mono ?_); rintro e w1 ⟨rfl, hb⟩)
    have HX1 := Lib.hid (HX.out.below hb)
    have HB1 := Lib.hid (HB.out.trans (hb.mono HB.out.size))
    clear hb HX HB
    by_cases h0 : e0 = 0
    · subst h0
      have HE1 : Hid (R = fstE (wkT f d) args) := Lib.hid (HE.out.trans (if_neg fun h => h rfl))
      clear HE C0
      have x8 := HX1.out.2 8 _ rfl
      have xl := HX1.out.1
      go_wp2_with fail
      clear x8 xl
      go_loopw [18] (fun i wr => ∃ k : Nat, k ≤ na ∧ i = .int .i64 k ∧ Below w1.heap.size w1 wr ∧ Hid (fstE (wkT f d) args = fstE (wkT f d) (args.drop k))) (fun i _ => na - (intOf i).toNat)
      case atStart => exact ⟨0, Nat.zero_le _, rfl, Below.refl _ _, Lib.hid rfl⟩
      case round =>
        obtain ⟨k, hk, rfl, hBr, HF⟩ := hrel
        have HBr := Lib.hid (HB1.out.trans (hBr.mono HB1.out.size))
        have HBr0 := Lib.hid hBr
        clear hBr
        by_cases hlt : k < na
        · have hkl : k < args.length := by have := HNA.out; omega
          obtain ⟨p, off, rfl, hp, c0, c1, c2, c3, c4, c5, c6, c7, c8⟩ := (HA.out.below HBr.out).at9c hkl
          have HD := Lib.hid (fstE_drop (wkT f d) args k hkl)
          have HTx := Lib.hid ((HC.out args[k] (List.getElem_mem hkl)).below HBr.out)
          have HTr := Lib.hid (HC0.out _ _ HBr.out HT.out)
          have C1 := Lib.hid (HI.out args[k])
          obtain ⟨r, hr⟩ : ∃ z, wkT f d args[k] = z := ⟨_, rfl⟩
          rw [hr] at HD C1
          clear hr
          generalize args[k] = x at *
          obtain ⟨xn, xargs⟩ := x
          obtain ⟨xkind, xname, xfield, xsign, xva, xvc, xvals, xwa, xwc, xwhs, xwithin, xnumber, xaa, xac⟩ := xn
          unfold Cn.agg at C1
          simp only [Cn.nd, Cn.args] at *
          have HTxa := Lib.hid (HTx.out.alloc (.cells #[.int .i64 xkind, .string xname, .string xfield, .string xsign, .slice xva xvals.length xvc, .slice xwa xwhs.length xwc, .int .i64 xwithin, .int .i64 xnumber, .slice xaa xargs.length xac] 30))
          have HTra := Lib.hid (HC0.out _ _ ((Below.refl _ _).alloc (Nat.le_refl _) (.cells #[.int .i64 xkind, .string xname, .string xfield, .string xsign, .slice xva xvals.length xvc, .slice xwa xwhs.length xwc, .int .i64 xwithin, .int .i64 xnumber, .slice xaa xargs.length xac] 30)) HTr.out)
          have HBa := Lib.hid (HBr.out.alloc HBr.out.size (.cells #[.int .i64 xkind, .string xname, .string xfield, .string xsign, .slice xva xvals.length xvc, .slice xwa xwhs.length xwc, .int .i64 xwithin, .int .i64 xnumber, .slice xaa xargs.length xac] 30))
          have HBa0 := Lib.hid (HBr0.out.alloc HBr0.out.size (.cells #[.int .i64 xkind, .string xname, .string xfield, .string xsign, .slice xva xvals.length xvc, .slice xwa xwhs.length xwc, .int .i64 xwithin, .int .i64 xnumber, .slice xaa xargs.length xac] 30))
          clear HTx HTr HBr HBr0
          obtain ⟨xnv, hxnv⟩ : ∃ z, xvals.length = z := ⟨_, rfl⟩
          obtain ⟨xnw, hxnw⟩ : ∃ z, xwhs.length = z := ⟨_, rfl⟩
          obtain ⟨xna, hxna⟩ : ∃ z, xargs.length = z := ⟨_, rfl⟩
          rw [hxnv] at c4 C1 HTxa HTra HBa HBa0
          rw [hxnw] at c5 C1 HTxa HTra HBa HBa0
          rw [hxna] at c8 C1 HTxa HTra HBa HBa0
          clear hxnv hxnw hxna
          go_wp2_with fail
          ((with_reducible refine (C1.out _ HTxa.out HTra.out).mono ?_); rintro e w5 ⟨rfl, hb5⟩)
          have HB5 := Lib.hid (HBa.out.trans (hb5.mono HBa.out.size))
          have HB50 := Lib.hid (HBa0.out.trans (hb5.mono HBa0.out.size))
          clear hb5 HTxa HTra HBa HBa0 c0 c1 c2 c3 c4 c5 c6 c7 c8 hp
          by_cases h3 : r = 0
          · subst h3
            go_wp2_with fail
            go_roundw
            case rel => exact ⟨k + 1, by omega, by go_num, HB50.out, Lib.hid (by rw [HF.out, HD.out]; rfl)⟩
            case measure => simp [intOf]; omega
          · have h4 : (r != 0) = true := by simpa using h3
            have H3 := Lib.hid h3
            clear h3
            go_wp2_with fail
            go_ret
            exact ⟨ret_int (by rw [HE1.out, HF.out, HD.out, if_neg H3.out]), HB5.out⟩
        · have HZ : Hid (fstE (wkT f d) args = 0) := Lib.hid (by rw [HF.out, List.drop_eq_nil_of_le (by have := HNA.out; omega)]; rfl)
          go_wp2_with fail
          go_ret
          exact ⟨ret_int (by rw [HE1.out, HZ.out]), HBr.out⟩
    · have h4 : (e0 != 0) = true := by simpa using h0
      have H3 := Lib.hid h0
      clear h0
      go_wp2_with fail
      go_ret
      exact ⟨ret_int (by rw [HE.out, if_pos H3.out]), HB1.out⟩
end Go.Proofs.YtfdpfkdfglombaaGreatDoor
/- segment.Check: the condition, the fields, the schemas, and whether they suit each other. -/
set_option linter.unusedVariables false
namespace Go.Proofs.YtfdpfkdfglombaaGreatDoor
open Go.RowKit

/-- what the two boxes of the fields and the schemas hold -/
structure CkC (q2 q3 : Nat) (fa : Option Addr) (f : List Nn) (nf fc : Nat) (sa : Option Addr) (l : List Sm) (ns sc : Nat) (w : World) : Prop where
  b2 : XB w q2 [.slice fa nf fc]
  b3 : XB w q3 [.slice sa ns sc]
  fd : NnL w fa f
  sm : SmL w sa l
theorem CkC.below {q2 q3 : Nat} {fa : Option Addr} {f : List Nn} {nf fc : Nat} {sa : Option Addr} {l : List Sm} {ns sc : Nat} {w w' : World} (h : CkC q2 q3 fa f nf fc sa l ns sc w) (k : Below w.heap.size w w') : CkC q2 q3 fa f nf fc sa l ns sc w' := ⟨h.b2.below k, h.b3.below k, h.fd.below k, h.sm.below k⟩

set_option maxRecDepth 100000 in
set_option maxHeartbeats 4000000 in
theorem check1_any (q2 q3 : Nat) (fa : Option Addr) (f : List Nn) (nf fc : Nat) (sa : Option Addr) (l : List Sm) (ns sc : Nat) (hnf : f.length = nf) (hns : l.length = ns) (rF : RgN f) (rS : RgS l) (x : Cn) (w : World) (hok : x.nd.ok)
    (hV : RAt w x.nd.va 3 Vl.cells x.nd.vals) (hW : RAt w x.nd.wa 5 Wh.cells x.nd.whs) (hC : CkC q2 q3 fa f nf fc sa l ns sc w) :
    Calls Tryz.prog 39 #[x.agg, .pointer (some ⟨q2, 0, none⟩), .pointer (some ⟨q3, 0, none⟩)] w (IntO w (suE f l x.nd)) := by
  have C := Lib.hid (fun w h1 h2 h3 h4 => suits_any x.nd x.args.length fa f nf fc sa l ns sc w hok h1 h2 h3 hnf h4 hns rF rS)
  generalize suE f l x.nd = R at *
  have HV := Lib.hid hV
  have HW := Lib.hid hW
  have HC := Lib.hid hC
  unfold Cn.agg
  clear hok hV hW hC rF rS hnf hns
  obtain ⟨n, args⟩ := x
  obtain ⟨kind, name, field, sign, va, vc, vals, wa, wc, whs, within, number, aa, ac⟩ := n
  simp only [Cn.nd, Cn.args] at *
  obtain ⟨nv, hnv⟩ : ∃ z, vals.length = z := ⟨_, rfl⟩
  obtain ⟨nw, hnw⟩ : ∃ z, whs.length = z := ⟨_, rfl⟩
  obtain ⟨na, hna⟩ : ∃ z, args.length = z := ⟨_, rfl⟩
  rw [hnv, hnw, hna] at C ⊢
  clear hnv hnw hna
  have HB := Lib.hid ((Below.refl w.heap.size w).alloc (Nat.le_refl _) (.cells #[.int .i64 kind, .string name, .string field, .string sign, .slice va nv vc, .slice wa nw wc, .int .i64 within, .int .i64 number, .slice aa na ac] 30))
  have HCa := Lib.hid (HC.out.below HB.out)
  have HVa := Lib.hid (HV.out.below HB.out)
  have HWa := Lib.hid (HW.out.below HB.out)
  have z2 := HCa.out.b2.2 0 _ rfl
  have z3 := HCa.out.b3.2 0 _ rfl
  go_enter Tryz.func39, Tryz.ntmps39
  go_wp2_with fail
  ((with_reducible refine (C.out _ HVa.out HWa.out HCa.out.fd HCa.out.sm).mono ?_); rintro e w1 ⟨rfl, hb⟩)
  have HB1 := Lib.hid (HB.out.trans (hb.mono HB.out.size))
  clear hb z2 z3
  go_wp2_with fail
  go_ret
  exact ⟨rfl, HB1.out⟩

set_option maxRecDepth 100000 in
set_option maxHeartbeats 8000000 in
theorem Check_any (d : Nat) (c : Cn) (fa : Option Addr) (f : List Nn) (nf fc : Nat) (sa : Option Addr) (l : List Sm) (ns sc : Nat) (w : World) (hT : TAt d w c) (hB : Tbs w) (hnf : f.length = nf) (hns : l.length = ns) (hF : NnL w fa f) (hS : SmL w sa l) :
    Calls Tryz.prog 10 #[c.agg, .slice fa nf fc, .slice sa ns sc] w (IntO w (tyE f l d c)) := by
  obtain ⟨R, hR⟩ : ∃ z, tyE f l d c = z := ⟨_, rfl⟩
  rw [hR]
  have HR := Lib.hid (show R = if cnE d c ≠ 0 then cnE d c else if nnsE f ≠ 0 then nnsE f else if smsE l ≠ 0 then smsE l else wkT (suE f l) d c from hR.symm)
  have C0 := Lib.hid (fun w h1 h2 => checkCond_any d c w h1 h2)
  have C1 := Lib.hid (fun w h => checkFieldsOf_any fa f nf fc w hnf (by have := hF.len; omega) h hF.ok)
  have C2 := Lib.hid (fun w h => CheckSchemas_any sa l ns sc w hns h)
  have C3 := Lib.hid (fun q2 q3 w (rF : RgN f) (rS : RgS l) h1 h2 => walkE_any (q2 := q2) (q3 := q3) (f := suE f l) (C := CkC q2 q3 fa f nf fc sa l ns sc) (fun w w' k h => h.below k) (fun x w h1 h2 h3 h4 => check1_any q2 q3 fa f nf fc sa l ns sc hnf hns rF rS x w h1 h2 h3 h4) d c w h1 h2)
  have HRF := Lib.hid (fun h : nnsE f = 0 => rgN_of h)
  have HRS := Lib.hid (fun h : smsE l = 0 => rgS_of h)
  obtain ⟨E0, hE0⟩ : ∃ z, cnE d c = z := ⟨_, rfl⟩
  obtain ⟨E1, hE1⟩ : ∃ z, nnsE f = z := ⟨_, rfl⟩
  obtain ⟨E2, hE2⟩ : ∃ z, smsE l = z := ⟨_, rfl⟩
  obtain ⟨E3, hE3⟩ : ∃ z, wkT (suE f l) d c = z := ⟨_, rfl⟩
  rw [hE0, hE1, hE2, hE3] at HR
  rw [hE0] at C0
  rw [hE1] at C1 HRF
  rw [hE2] at C2 HRS
  rw [hE3] at C3
  have HT := Lib.hid hT
  have HTB := Lib.hid hB
  have HF := Lib.hid hF
  have HS := Lib.hid hS
  unfold Cn.agg at *
  clear hR hE0 hE1 hE2 hE3 hT hB hF hS hnf hns
  obtain ⟨n, args⟩ := c
  obtain ⟨kind, name, field, sign, va, vc, vals, wa, wc, whs, within, number, aa, ac⟩ := n
  simp only [Cn.nd, Cn.args] at *
  obtain ⟨nv, hnv⟩ : ∃ z, vals.length = z := ⟨_, rfl⟩
  obtain ⟨nw, hnw⟩ : ∃ z, whs.length = z := ⟨_, rfl⟩
  obtain ⟨na, hna⟩ : ∃ z, args.length = z := ⟨_, rfl⟩
  rw [hnv, hnw, hna] at C0 C3 ⊢
  clear hnv hnw hna
  obtain ⟨w1, hw1⟩ : ∃ z, w.alloc (.cells #[.int .i64 kind, .string name, .string field, .string sign, .slice va nv vc, .slice wa nw wc, .int .i64 within, .int .i64 number, .slice aa na ac] 30) = z := ⟨_, rfl⟩
  obtain ⟨w2, hw2⟩ : ∃ z, w1.alloc (.cells #[.slice fa nf fc] 32) = z := ⟨_, rfl⟩
  obtain ⟨w3, hw3⟩ : ∃ z, w2.alloc (.cells #[.slice sa ns sc] 34) = z := ⟨_, rfl⟩
  have hz1 : w1.heap.size = w.heap.size + 1 := by rw [← hw1]; exact World.size_alloc _ _
  have hz2 : w2.heap.size = w.heap.size + 2 := by rw [← hw2, World.size_alloc, hz1]
  have HB := Lib.hid (show Below w.heap.size w w3 by rw [← hw3, ← hw2, ← hw1]; exact (((Below.refl _ _).alloc (Nat.le_refl _) _).alloc (by simp) _).alloc (by simp; omega) _)
  have HX := Lib.hid (show XB w3 w.heap.size [.int .i64 kind, .string name, .string field, .string sign, .slice va nv vc, .slice wa nw wc, .int .i64 within, .int .i64 number, .slice aa na ac] by rw [← hw3, ← hw2, ← hw1]; exact ((XB.new w _ 30).alloc _).alloc _)
  have HX2 := Lib.hid (show XB w3 (w.heap.size + 1) [.slice fa nf fc] by rw [← hw3, ← hw2, ← hz1]; exact (XB.new w1 _ 32).alloc _)
  have HX3 := Lib.hid (show XB w3 (w.heap.size + 2) [.slice sa ns sc] by rw [← hw3, ← hz2]; exact XB.new w2 _ 34)
  have HT3 := Lib.hid (HT.out.below HB.out)
  have HTB3 := Lib.hid (HTB.out.below HB.out)
  have HF3 := Lib.hid (HF.out.below HB.out)
  have HS3 := Lib.hid (HS.out.below HB.out)
  go_enter Tryz.func10, Tryz.ntmps10
  go_upto_region 1 with (fail)
  try rw [hw1]
  try rw [hz1]
  try rw [hw2]
  try rw [hz2]
  try rw [hw3]
  obtain ⟨q0, hq0⟩ : ∃ z, w.heap.size = z := ⟨_, rfl⟩
  obtain ⟨q2, hq2⟩ : ∃ z, w.heap.size + 1 = z := ⟨_, rfl⟩
  obtain ⟨q3, hq3⟩ : ∃ z, w.heap.size + 2 = z := ⟨_, rfl⟩
  rw [hq2] at HX2 ⊢
  rw [hq3] at HX3 ⊢
  rw [hq0] at HX ⊢
  clear hw1 hw2 hw3 hz1 hz2 hq0 hq2 hq3 HT HTB HF HS
  have x0 := HX.out.2 0 _ rfl
  have x1 := HX.out.2 1 _ rfl
  have x2 := HX.out.2 2 _ rfl
  have x3 := HX.out.2 3 _ rfl
  have x4 := HX.out.2 4 _ rfl
  have x5 := HX.out.2 5 _ rfl
  have x6 := HX.out.2 6 _ rfl
  have x7 := HX.out.2 7 _ rfl
  have x8 := HX.out.2 8 _ rfl
  have xl := HX.out.1
  go_wp2_with fail
  clear x0 x1 x2 x3 x4 x5 x6 x7 x8 xl
  ((with_reducible refine (C0.out _ HT3.out HTB3.out).mono ?_); rintro e w4 ⟨rfl, hb⟩)
  have HX9 := Lib.hid (HX.out.below hb)
  have HX29 := Lib.hid (HX2.out.below hb)
  have HX39 := Lib.hid (HX3.out.below hb)
  have HT39 := Lib.hid (HT3.out.below hb)
  have HTB39 := Lib.hid (HTB3.out.below hb)
  have HF39 := Lib.hid (HF3.out.below hb)
  have HS39 := Lib.hid (HS3.out.below hb)
  have HB9 := Lib.hid (HB.out.trans (hb.mono HB.out.size))
  clear hb HX HX2 HX3 HT3 HTB3 HF3 HS3 HB
  have HX := HX9
  have HX2 := HX29
  have HX3 := HX39
  have HT3 := HT39
  have HTB3 := HTB39
  have HF3 := HF39
  have HS3 := HS39
  have HB := HB9
  clear HX9 HX29 HX39 HT39 HTB39 HF39 HS39 HB9
  by_cases h0 : E0 = 0
  · subst h0
    have HR1 := Lib.hid (HR.out.trans (if_neg fun h => h rfl))
    clear HR
    have z2 := HX2.out.2 0 _ rfl
    have zl := HX2.out.1
    go_wp2_with fail
    clear z2 zl
    ((with_reducible refine (C1.out _ HF3.out.row).mono ?_); rintro e w4 ⟨rfl, hb⟩)
    have HX9 := Lib.hid (HX.out.below hb)
    have HX29 := Lib.hid (HX2.out.below hb)
    have HX39 := Lib.hid (HX3.out.below hb)
    have HT39 := Lib.hid (HT3.out.below hb)
    have HTB39 := Lib.hid (HTB3.out.below hb)
    have HF39 := Lib.hid (HF3.out.below hb)
    have HS39 := Lib.hid (HS3.out.below hb)
    have HB9 := Lib.hid (HB.out.trans (hb.mono HB.out.size))
    clear hb HX HX2 HX3 HT3 HTB3 HF3 HS3 HB
    have HX := HX9
    have HX2 := HX29
    have HX3 := HX39
    have HT3 := HT39
    have HTB3 := HTB39
    have HF3 := HF39
    have HS3 := HS39
    have HB := HB9
    clear HX9 HX29 HX39 HT39 HTB39 HF39 HS39 HB9
    by_cases h1 : E1 = 0
    · subst h1
      have HR2 := Lib.hid (HR1.out.trans (if_neg fun h => h rfl))
      clear HR1
      have z3 := HX3.out.2 0 _ rfl
      have zl := HX3.out.1
      go_wp2_with fail
      clear z3 zl
      ((with_reducible refine (C2.out _ HS3.out).mono ?_); rintro e w4 ⟨rfl, hb⟩)
      have HX9 := Lib.hid (HX.out.below hb)
      have HX29 := Lib.hid (HX2.out.below hb)
      have HX39 := Lib.hid (HX3.out.below hb)
      have HT39 := Lib.hid (HT3.out.below hb)
      have HTB39 := Lib.hid (HTB3.out.below hb)
      have HF39 := Lib.hid (HF3.out.below hb)
      have HS39 := Lib.hid (HS3.out.below hb)
      have HB9 := Lib.hid (HB.out.trans (hb.mono HB.out.size))
      clear hb HX HX2 HX3 HT3 HTB3 HF3 HS3 HB
      have HX := HX9
      have HX2 := HX29
      have HX3 := HX39
      have HT3 := HT39
      have HTB3 := HTB39
      have HF3 := HF39
      have HS3 := HS39
      have HB := HB9
      clear HX9 HX29 HX39 HT39 HTB39 HF39 HS39 HB9
      by_cases h2 : E2 = 0
      · subst h2
        have HR3 := Lib.hid (HR2.out.trans (if_neg fun h => h rfl))
        clear HR2
        have x0 := HX.out.2 0 _ rfl
        have x1 := HX.out.2 1 _ rfl
        have x2 := HX.out.2 2 _ rfl
        have x3 := HX.out.2 3 _ rfl
        have x4 := HX.out.2 4 _ rfl
        have x5 := HX.out.2 5 _ rfl
        have x6 := HX.out.2 6 _ rfl
        have x7 := HX.out.2 7 _ rfl
        have x8 := HX.out.2 8 _ rfl
        have xl := HX.out.1
        go_wp2_with fail
        clear x0 x1 x2 x3 x4 x5 x6 x7 x8 xl
        ((with_reducible refine (C3.out q2 q3 _ (HRF.out (by trivial)) (HRS.out (by trivial)) HT3.out ⟨HX2.out, HX3.out, HF3.out, HS3.out⟩).mono ?_); rintro e w4 ⟨rfl, hb⟩)
        have HB4 := Lib.hid (HB.out.trans (hb.mono HB.out.size))
        clear hb
        go_wp2_with fail
        go_ret
        exact ⟨ret_int HR3.out.symm, HB4.out⟩
      · have h4 : (E2 != 0) = true := by simpa using h2
        have HR3 := Lib.hid (HR2.out.trans (if_pos h2))
        clear h2
        go_wp2_with fail
        go_ret
        exact ⟨ret_int HR3.out.symm, HB.out⟩
    · have h4 : (E1 != 0) = true := by simpa using h1
      have HR3 := Lib.hid (HR1.out.trans (if_pos h1))
      clear h1
      go_wp2_with fail
      go_ret
      exact ⟨ret_int HR3.out.symm, HB.out⟩
  · have h4 : (E0 != 0) = true := by simpa using h0
    have HR3 := Lib.hid (HR.out.trans (if_pos h0))
    clear h0
    go_wp2_with fail
    go_ret
    exact ⟨ret_int HR3.out.symm, HB.out⟩
end Go.Proofs.YtfdpfkdfglombaaGreatDoor
