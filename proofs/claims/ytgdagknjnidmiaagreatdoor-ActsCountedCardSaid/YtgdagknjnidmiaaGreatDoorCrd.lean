/- What letters are given, as plain lists: both ways to count lead to the same. -/
import Derived.Test.YtgdagknjnidmiaaGreatDoorVMap
set_option linter.unusedVariables false
namespace Go.Proofs.YtgdagknjnidmiaaGreatDoor

/-- what has been given: the letters met, each one's cents and how many gains -/
structure Crd where
  keys : List ByteArray
  ce : ByteArray → Nat
  ga : ByteArray → Nat
def upF (f : ByteArray → Nat) (s : ByteArray) (n : Nat) : ByteArray → Nat := fun x => if sameS s x = true then f x + n else f x
theorem upF_same (f : ByteArray → Nat) (s : ByteArray) (n : Nat) : upF f s n s = f s + n := by unfold upF; rw [if_pos (sameS_eq.2 rfl)]
theorem upF_other (f : ByteArray → Nat) {s x : ByteArray} (n : Nat) (h : s ≠ x) : upF f s n x = f x := by unfold upF; rw [if_neg (fun e => h (sameS_eq.1 e))]
theorem upF_nil (f : ByteArray → Nat) (s : ByteArray) : upF f s 0 = f := by
  funext x
  unfold upF
  split <;> simp
/-- what is given for one gain, and whose gain has been counted -/
structure CrQ where
  c : Crd
  seen : List ByteArray
/-- one part: the letter, its cents, its weight; letters of no weight are passed over -/
def crO (q : CrQ) (p : ByteArray × Nat × Nat) : CrQ :=
  if p.2.2 = 0 then q else
  ⟨⟨addK q.c.keys p.1, upF q.c.ce p.1 p.2.1, if hasS q.seen p.1 = true then q.c.ga else upF q.c.ga p.1 1⟩, if hasS q.seen p.1 = true then q.seen else q.seen ++ [p.1]⟩
/-- the same; letters of no weight are met too -/
def crR (q : CrQ) (p : ByteArray × Nat × Nat) : CrQ :=
  ⟨⟨addK q.c.keys p.1, upF q.c.ce p.1 p.2.1, if 0 < p.2.2 ∧ hasS q.seen p.1 = false then upF q.c.ga p.1 1 else q.c.ga⟩, if 0 < p.2.2 ∧ hasS q.seen p.1 = false then q.seen ++ [p.1] else q.seen⟩
/-- all parts of a gain -/
def crOs (c : Crd) (l : List (ByteArray × Nat × Nat)) : Crd := (l.foldl crO ⟨c, []⟩).c
def crRs (c : Crd) (l : List (ByteArray × Nat × Nat)) : Crd := (l.foldl crR ⟨c, []⟩).c
/-- the two belong together -/
structure CrJ (o r : Crd) : Prop where
  ce : o.ce = r.ce
  ga : o.ga = r.ga
  ko : ∀ s, s ∈ o.keys ↔ 0 < o.ga s
  kr : ∀ s, s ∈ o.keys → s ∈ r.keys
  no : o.keys.Nodup
  nr : r.keys.Nodup
  z : ∀ s, s ∉ r.keys → r.ce s = 0 ∧ r.ga s = 0
theorem CrJ.nil : CrJ ⟨[], fun _ => 0, fun _ => 0⟩ ⟨[], fun _ => 0, fun _ => 0⟩ := ⟨rfl, rfl, fun s => by simp, fun s h => h, by simp, by simp, fun s _ => ⟨rfl, rfl⟩⟩
structure CrI (o r : CrQ) : Prop where
  j : CrJ o.c r.c
  seen : o.seen = r.seen
  got : ∀ s, s ∈ o.seen → 0 < o.c.ga s
theorem CrI.step {o r : CrQ} (h : CrI o r) (p : ByteArray × Nat × Nat) (hz : p.2.2 = 0 → p.2.1 = 0) : CrI (crO o p) (crR r p) := by
  obtain ⟨s, c, w⟩ := p
  obtain ⟨⟨ko, ceo, gao⟩, so⟩ := o
  obtain ⟨⟨kr, cer, gar⟩, sr⟩ := r
  obtain ⟨⟨h1, h2, h3, h4, h5, h6, h7⟩, h8, h9⟩ := h
  simp only at h1 h2 h3 h4 h5 h6 h7 h8 h9 hz
  subst h1 h2 h8
  have zer : ∀ (ce2 ga2 : ByteArray → Nat), (∀ x, s ≠ x → ce2 x = ceo x ∧ ga2 x = gao x) → ∀ x, x ∉ addK kr s → ce2 x = 0 ∧ ga2 x = 0 := by
    intro ce2 ga2 he x hx
    have h : ¬ (x ∈ kr ∨ x = s) := fun e => hx (addK_mem.2 e)
    have hxs : s ≠ x := fun e => h (Or.inr e.symm)
    obtain ⟨e1, e2⟩ := he x hxs
    rw [e1, e2]
    exact h7 x (fun e => h (Or.inl e))
  unfold crO crR
  by_cases hw : w = 0
  · subst hw
    have hc := hz rfl
    subst hc
    simp only [upF_nil, if_pos, Nat.lt_irrefl, false_and, if_false]
    exact ⟨⟨rfl, rfl, h3, fun x hx => addK_mem.2 (Or.inl (h4 x hx)), h5, addK_nodup h6 s, zer _ _ (fun x _ => ⟨rfl, rfl⟩)⟩, rfl, h9⟩
  · have hw' : 0 < w := Nat.pos_of_ne_zero hw
    simp only [hw, if_false, hw', true_and]
    by_cases hs : hasS so s = true
    · have hs' : ¬ hasS so s = false := by rw [hs]; decide
      simp only [if_pos hs, if_neg hs']
      refine ⟨⟨rfl, rfl, fun x => ?_, fun x hx => ?_, addK_nodup h5 s, addK_nodup h6 s, zer _ _ (fun x hx => ⟨upF_other _ _ hx, rfl⟩)⟩, rfl, h9⟩
      · show x ∈ addK ko s ↔ 0 < gao x
        rw [addK_mem, h3]
        exact ⟨fun e => e.elim id (fun e => by subst e; exact h9 x (hasS_mem.1 hs)), Or.inl⟩
      · exact addK_mem.2 ((addK_mem.1 hx).imp (h4 x) id)
    · have hs' : hasS so s = false := by simpa using hs
      simp only [if_neg hs, if_pos hs']
      refine ⟨⟨rfl, rfl, fun x => ?_, fun x hx => ?_, addK_nodup h5 s, addK_nodup h6 s, zer _ _ (fun x hx => ⟨upF_other _ _ hx, upF_other _ _ hx⟩)⟩, rfl, fun x hx => ?_⟩
      · show x ∈ addK ko s ↔ 0 < upF gao s 1 x
        rw [addK_mem, h3]
        by_cases e : s = x
        · subst e
          rw [upF_same]
          exact ⟨fun _ => Nat.succ_pos _, fun _ => Or.inr rfl⟩
        · rw [upF_other _ _ e]
          exact ⟨fun h => h.elim id (fun h => absurd h.symm e), Or.inl⟩
      · exact addK_mem.2 ((addK_mem.1 hx).imp (h4 x) id)
      · show 0 < upF gao s 1 x
        by_cases e : s = x
        · subst e; rw [upF_same]; omega
        · rw [upF_other _ _ e]
          rcases List.mem_append.1 hx with hx | hx
          · exact h9 x hx
          · exact absurd (List.mem_singleton.1 hx).symm e
theorem CrI.all {o r : CrQ} (h : CrI o r) (l : List (ByteArray × Nat × Nat)) (hz : ∀ p ∈ l, p.2.2 = 0 → p.2.1 = 0) : CrI (l.foldl crO o) (l.foldl crR r) := by
  induction l generalizing o r with
  | nil => exact h
  | cons p l ih => exact ih (h.step p (hz p (by simp))) fun q hq => hz q (by simp [hq])
theorem CrJ.gain {o r : Crd} (h : CrJ o r) (l : List (ByteArray × Nat × Nat)) (hz : ∀ p ∈ l, p.2.2 = 0 → p.2.1 = 0) : CrJ (crOs o l) (crRs r l) :=
  (CrI.all (o := ⟨o, []⟩) (r := ⟨r, []⟩) ⟨h, rfl, fun s hs => by simp at hs⟩ l hz).j
end Go.Proofs.YtgdagknjnidmiaaGreatDoor
