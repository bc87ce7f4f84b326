/- Acts and rows, as plain lists: what is wrong with acts, who did what, how far letters went. -/
import Derived.Test.YtgdagknjnidmiaaGreatDoorM1
import Derived.Test.YtgdagknjnidmiaaGreatDoorIdx
import Derived.Test.YtgdagknjnidmiaaGreatDoorVKeys
set_option linter.unusedVariables false
namespace Go.Proofs.YtgdagknjnidmiaaGreatDoor
open Go.RowKit

structure Ac where
  sent : ByteArray
  kind : Int
  at_ : Int
def Ac.cells (x : Ac) : List Value := [.string x.sent, .int .i64 x.kind, .int .i64 x.at_]
theorem Ac.len (x : Ac) : x.cells.length = 3 := rfl
instance : Inhabited Ac := ⟨⟨⟨#[]⟩, 0, 0⟩⟩
instance : Inhabited Snt := ⟨⟨⟨#[]⟩, ⟨#[]⟩, ⟨#[]⟩, 0⟩⟩
/-- as the maker draws them -/
def Ac.ok (x : Ac) : Prop := x.sent.size ≤ 100 ∧ 0 ≤ x.kind ∧ x.kind ≤ 10 ∧ -9223372036854775808 ≤ x.at_ ∧ x.at_ ≤ 9223372036854775807

def sIds (l : List Snt) : List ByteArray := l.map Snt.id
/-- when the letter with that place was sent -/
def sAt (l : List Snt) (i : Int) : Int := (l.getD i.toNat default).at_
theorem sAt_get {l : List Snt} {k : Nat} (h : k < l.length) : sAt l (k : Int) = l[k].at_ := by
  unfold sAt
  simp [List.getD_eq_getElem?_getD, List.getElem?_eq_getElem h]
/-- a kind of acts -/
def kndB (n : Int) : Bool := decide (1 ≤ n ∧ n ≤ 4)
/-- what is wrong with an act -/
def acE (l : List Snt) (a : Ac) : Int :=
  if idxG (sIds l) a.sent < 0 then 8 else if kndB a.kind = false then 4 else if momB a.at_ = false then 1 else if a.at_ < sAt l (idxG (sIds l) a.sent) then 7 else 0
def acsE (l : List Snt) : List Ac → Int
  | [] => 0
  | a :: r => if acE l a = 0 then acsE l r else acE l a
theorem acsE_drop (l : List Snt) (acts : List Ac) (k : Nat) (h : k < acts.length) : acsE l (acts.drop k) = if acE l acts[k] = 0 then acsE l (acts.drop (k + 1)) else acE l acts[k] := by
  rw [List.drop_eq_getElem_cons h]; rfl
theorem acsE_good {l : List Snt} : ∀ {acts : List Ac}, acsE l acts = 0 → ∀ a ∈ acts, acE l a = 0
  | [], _, a, h => by cases h
  | b :: r, h, a, ha => by
    unfold acsE at h
    by_cases h0 : acE l b = 0
    · rw [if_pos h0] at h
      rcases List.mem_cons.1 ha with rfl | ha
      · exact h0
      · exact acsE_good h a ha
    · rw [if_neg h0] at h; exact absurd h h0
/-- what an act that is right is like -/
theorem acE_zero {l : List Snt} {a : Ac} (h : acE l a = 0) : (0 ≤ idxG (sIds l) a.sent ∧ idxG (sIds l) a.sent < l.length) ∧ 1 ≤ a.kind ∧ a.kind ≤ 4 ∧ momB a.at_ = true ∧ sAt l (idxG (sIds l) a.sent) ≤ a.at_ := by
  unfold acE at h
  by_cases c1 : idxG (sIds l) a.sent < 0
  · rw [if_pos c1] at h; cases h
  · rw [if_neg c1] at h
    by_cases c2 : kndB a.kind = false
    · rw [if_pos c2] at h; cases h
    · rw [if_neg c2] at h
      by_cases c3 : momB a.at_ = false
      · rw [if_pos c3] at h; cases h
      · rw [if_neg c3] at h
        by_cases c4 : a.at_ < sAt l (idxG (sIds l) a.sent)
        · rw [if_pos c4] at h; cases h
        · have := idxG_bd (sIds l) a.sent
          have e : (sIds l).length = l.length := List.length_map ..
          rw [e] at this
          have c2' : 1 ≤ a.kind ∧ a.kind ≤ 4 := by unfold kndB at c2; simpa using c2
          refine ⟨by omega, by omega, by omega, by simpa using c3, by omega⟩
/-- the whole error -/
def stE (l : List Snt) (acts : List Ac) (span : Int) : Int := if sentE l ≠ 0 then sentE l else if acsE l acts ≠ 0 then acsE l acts else if span < 0 ∨ 4321440 < span then 1 else 0

/-- what is wrong with an act, but for whether its letter was sent -/
def acfE (a : Ac) : Int := if keyB a.sent = false then 5 else if kndB a.kind = false then 4 else if momB a.at_ = false then 1 else 0
def acsF : List Ac → Int
  | [] => 0
  | a :: r => if acfE a = 0 then acsF r else acfE a
theorem acsF_drop (acts : List Ac) (k : Nat) (h : k < acts.length) : acsF (acts.drop k) = if acfE acts[k] = 0 then acsF (acts.drop (k + 1)) else acfE acts[k] := by
  rw [List.drop_eq_getElem_cons h]; rfl
theorem acfE_zero {a : Ac} (h : acfE a = 0) : 1 ≤ a.kind ∧ a.kind ≤ 4 ∧ 0 ≤ a.at_ ∧ a.at_ ≤ 4321439 := by
  unfold acfE at h
  by_cases c1 : keyB a.sent = false
  · rw [if_pos c1] at h; cases h
  · rw [if_neg c1] at h
    by_cases c2 : kndB a.kind = false
    · rw [if_pos c2] at h; cases h
    · rw [if_neg c2] at h
      by_cases c3 : momB a.at_ = false
      · rw [if_pos c3] at h; cases h
      · have c2' : 1 ≤ a.kind ∧ a.kind ≤ 4 := by unfold kndB at c2; simpa using c2
        have c3' : 0 ≤ a.at_ ∧ a.at_ ≤ 4321439 := by unfold momB at c3; simpa using c3
        exact ⟨c2'.1, c2'.2, c3'.1, c3'.2⟩
theorem acsF_good : ∀ {acts : List Ac}, acsF acts = 0 → ∀ a ∈ acts, acfE a = 0
  | [], _, a, h => by cases h
  | b :: r, h, a, ha => by
    unfold acsF at h
    by_cases h0 : acfE b = 0
    · rw [if_pos h0] at h
      rcases List.mem_cons.1 ha with rfl | ha
      · exact h0
      · exact acsF_good h a ha
    · rw [if_neg h0] at h; exact absurd h h0
theorem rat3 {α : Type} {w : World} {a : Option Addr} {C : Nat} {f : α → List Value} {l : List α} (h : RAt w a C f l) {j : Nat} (hj : j < l.length) {v0 v1 v2 : Value} (e : f l[j] = [v0, v1, v2]) :
    ∃ p off, a = some ⟨p, off, none⟩ ∧ p < w.heap.size ∧ w.cell? ⟨p, off + j * C, none⟩ = some v0 ∧ w.cell? ⟨p, off + j * C + 1, none⟩ = some v1 ∧ w.cell? ⟨p, off + j * C + 2, none⟩ = some v2 := by
  obtain ⟨p, off, h1, h2, h3⟩ := h j hj
  rw [e] at h3
  exact ⟨p, off, h1, h2, h3 0 v0 rfl, h3 1 v1 rfl, h3 2 v2 rfl⟩
theorem eqS_same (x s : ByteArray) : eqS x s = sameS x s := rfl
/-- no id comes twice -/
theorem ids_nodup {l : List Snt} (h : sentE l = 0) : (sIds l).Nodup := by
  have key : ∀ (r pre : List Snt), (pre.map Snt.id).Nodup → sentGo pre r = 0 → ((pre ++ r).map Snt.id).Nodup := by
    intro r
    induction r with
    | nil => intro pre h _; simpa using h
    | cons x r ih =>
      intro pre hp h
      rw [sentGo] at h
      by_cases h0 : stepE pre x = 0
      · rw [if_pos h0] at h
        have h1 : hasS (pre.map Snt.id) x.id = false := by
          unfold stepE sE at h0
          cases hk : keyB x.id <;> cases hh : hasS (pre.map Snt.id) x.id <;> simp [hk, hh] at h0 ⊢
        have := ih (pre ++ [x]) (by
          rw [List.map_append, List.nodup_append]
          refine ⟨hp, by simp, fun a ha b hb e => ?_⟩
          obtain rfl : b = x.id := by simpa using hb
          subst e
          rw [hasS_mem.2 ha] at h1
          cases h1) h
        rwa [List.append_assoc] at this
      · rw [if_neg h0] at h; exact absurd h h0
  exact key l [] (by simp) h
/-- the place of one that is there, where none comes twice -/
theorem idx_at : ∀ {ids : List ByteArray}, ids.Nodup → ∀ {j : Nat} (h : j < ids.length) (s : ByteArray), eqS ids[j] s = decide (idxG ids s = (j : Int)) := by
  have key : ∀ (ids : List ByteArray) (i : Nat), ids.Nodup → ∀ (j : Nat) (h : j < ids.length) (s : ByteArray), eqS ids[j] s = decide (idxGo ids s i = ((i + j : Nat) : Int)) := by
    intro ids
    induction ids with
    | nil => intro i _ j h; cases h
    | cons x ids ih =>
      intro i hn j h s
      rw [List.nodup_cons] at hn
      unfold idxGo
      cases j with
      | zero =>
        show eqS x s = _
        by_cases e : eqS x s = true
        · rw [if_pos e, e]; simp
        · rw [if_neg e]
          have e' : eqS x s = false := by simpa using e
          rw [e']
          symm
          rw [decide_eq_false_iff_not]
          have := idxGo_bd ids s (i + 1)
          omega
      | succ j =>
        have hj : j < ids.length := by simpa using h
        show eqS ids[j] s = _
        by_cases e : eqS x s = true
        · rw [if_pos e]
          have hx := eqS_eq.1 e
          subst hx
          have h2 : eqS ids[j] x = false := by
            cases hc : eqS ids[j] x
            · rfl
            · exact absurd (by rw [← eqS_eq.1 hc]; exact List.getElem_mem hj) hn.1
          rw [h2]
          symm
          rw [decide_eq_false_iff_not]
          omega
        · rw [if_neg e, ih (i + 1) hn.2 j hj s]
          congr 1
          have : i + 1 + j = i + (j + 1) := by omega
          rw [this]
  intro ids hn j h s
  have := key ids 0 hn j h s
  rw [Nat.zero_add] at this
  exact this

/-- did someone do that with that letter in time -/
def didB (acts : List Ac) (span : Int) (x : Snt) (k : Int) : Bool := acts.any fun a => decide (a.kind = k) && (eqS a.sent x.id && decide (a.at_ ≤ x.at_ + span))
theorem didB_succ (acts : List Ac) (span : Int) (x : Snt) (k : Int) (i : Nat) (h : i < acts.length) :
    didB (acts.take (i + 1)) span x k = (didB (acts.take i) span x k || (decide (acts[i].kind = k) && (eqS acts[i].sent x.id && decide (acts[i].at_ ≤ x.at_ + span)))) := by
  unfold didB
  rw [List.take_succ_eq_append_getElem h, List.any_append]
  simp
/-- which counts go up -/
def incB (d : Int → Bool) : Nat → Bool
  | 1 => true
  | 2 => d 1 || (d 2 || d 3)
  | 3 => d 2 || d 3
  | 4 => d 3
  | 5 => d 4
  | _ => false
/-- rows: the letters met, and five counts for each -/
structure Rws where
  keys : List ByteArray
  f : ByteArray → Nat → Nat
def incN (d : Int → Bool) (j : Nat) : Nat := if incB d j = true then 1 else 0
def rwS (r : Rws) (s : ByteArray) (d : Int → Bool) : Rws := ⟨addK r.keys s, fun x j => if sameS s x = true then r.f x j + incN d j else r.f x j⟩
def rws (l : List Snt) (acts : List Ac) (span : Int) : Nat → Rws
  | 0 => ⟨[], fun _ _ => 0⟩
  | k + 1 => rwS (rws l acts span k) (l.getD k default).letter (didB acts span (l.getD k default))
theorem rws_succ (l : List Snt) (acts : List Ac) (span : Int) (k : Nat) (h : k < l.length) : rws l acts span (k + 1) = rwS (rws l acts span k) l[k].letter (didB acts span l[k]) := by
  show rwS _ _ _ = _
  simp [List.getD_eq_getElem?_getD, List.getElem?_eq_getElem h]
theorem rws_nodup (l : List Snt) (acts : List Ac) (span : Int) : ∀ k, (rws l acts span k).keys.Nodup
  | 0 => List.nodup_nil
  | k + 1 => addK_nodup (rws_nodup l acts span k) _
theorem rws_keys (l : List Snt) (acts : List Ac) (span : Int) (P : ByteArray → Prop) (hP : ∀ x ∈ l, P x.letter) : ∀ k, k ≤ l.length → ∀ s ∈ (rws l acts span k).keys, P s
  | 0, _, s, hs => by cases hs
  | k + 1, hk, s, hs => by
    rw [rws_succ _ _ _ _ (by omega)] at hs
    rcases addK_mem.1 hs with hs | rfl
    · exact rws_keys l acts span P hP k (by omega) s hs
    · exact hP _ (List.getElem_mem _)
theorem rws_bd (l : List Snt) (acts : List Ac) (span : Int) : ∀ k s j, (rws l acts span k).f s j ≤ k
  | 0, _, _ => Nat.le_refl _
  | k + 1, s, j => by
    have ih := rws_bd l acts span k s j
    show (if _ then (rws l acts span k).f s j + incN _ j else (rws l acts span k).f s j) ≤ k + 1
    have h1 : incN (didB acts span (l.getD k default)) j ≤ 1 := by unfold incN; split <;> omega
    split
    · exact Nat.add_le_add ih h1
    · omega
theorem rws_out (l : List Snt) (acts : List Ac) (span : Int) : ∀ k s j, s ∉ (rws l acts span k).keys → (rws l acts span k).f s j = 0
  | 0, _, _, _ => rfl
  | k + 1, s, j, h => by
    have h1 : ¬ (s ∈ (rws l acts span k).keys ∨ s = (l.getD k default).letter) := fun e => h (addK_mem.2 e)
    show (if sameS (l.getD k default).letter s = true then _ else (rws l acts span k).f s j) = 0
    rw [if_neg (fun e => h1 (.inr (sameS_eq.1 e).symm))]
    exact rws_out l acts span k s j (fun e => h1 (.inl e))
theorem rws_len (l : List Snt) (acts : List Ac) (span : Int) : ∀ k, (rws l acts span k).keys.length ≤ k
  | 0 => Nat.le_refl _
  | k + 1 => by
    have ih := rws_len l acts span k
    show (addK (rws l acts span k).keys _).length ≤ k + 1
    unfold addK
    split
    · omega
    · simp; exact ih
/-- a letter's row -/
structure Rw where
  letter : ByteArray
  f : Nat → Nat
def Rw.cells (x : Rw) : List Value := [.string x.letter, .int .i64 (x.f 1 : Int), .int .i64 (x.f 2 : Int), .int .i64 (x.f 3 : Int), .int .i64 (x.f 4 : Int), .int .i64 (x.f 5 : Int)]
theorem Rw.len (x : Rw) : x.cells.length = 6 := rfl
instance : Inhabited Rw := ⟨⟨⟨#[]⟩, fun _ => 0⟩⟩
def Rws.at_ (r : Rws) (s : ByteArray) : Rw := ⟨s, r.f s⟩
/-- the answer: the letters in order -/
def rwL (r : Rws) : List Rw := (ordK r.keys).map r.at_
theorem rwL_at (c : Rws) (k : Nat) (h : k < (rwL c).length) (h' : k < (ordK c.keys).length) : (rwL c)[k] = c.at_ ((ordK c.keys)[k]) := by
  show (List.map c.at_ (ordK c.keys))[k]'h = _
  exact List.getElem_map c.at_
/-- all rows, sorted, are the answer -/
theorem rwL_same (r : Rws) (hnd : r.keys.Nodup) (m : List Rw) (hm : m.Perm (r.keys.map r.at_)) : isort cmpB Rw.letter m = rwL r := by
  obtain ⟨h1, h2⟩ := isort_law cmpB_tot Rw.letter m
  have hq : (isort cmpB Rw.letter m).Perm (rwL r) := h1.trans (hm.trans ((ordK_perm r.keys).symm.map _))
  have h3 : (rwL r).Pairwise (fun x y => cmpB x.letter y.letter ≤ 0) := by
    unfold rwL
    rw [List.pairwise_map]
    exact ordK_sorted r.keys
  refine List.Perm.eq_of_pairwise (le := fun x y => cmpB x.letter y.letter ≤ 0) (fun a b ha hb h4 h5 => ?_) h2 h3 hq
  have h7 : cmpB a.letter b.letter = 0 := by
    have := cmpB_tot.anti a.letter b.letter
    omega
  have h8 := (cmpB_tot.eq _ _).1 h7
  have ha' := hq.mem_iff.1 ha
  unfold rwL at ha' hb
  obtain ⟨s, _, rfl⟩ := List.mem_map.1 ha'
  obtain ⟨t, _, rfl⟩ := List.mem_map.1 hb
  have : s = t := h8
  rw [this]
/-- the answer of both -/
def stL (l : List Snt) (acts : List Ac) (span : Int) : List Rw := if stE l acts span = 0 then rwL (rws l acts span l.length) else []
end Go.Proofs.YtgdagknjnidmiaaGreatDoor
