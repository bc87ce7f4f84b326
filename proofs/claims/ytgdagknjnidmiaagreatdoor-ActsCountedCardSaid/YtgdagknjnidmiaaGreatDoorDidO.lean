/- A map of one's own from strings to maps from ints: who did something when. -/
import Derived.Test.YtgdagknjnidmiaaGreatDoorVInt
import Derived.Test.YtgdagknjnidmiaaGreatDoorVRange
import Derived.Test.YtgdagknjnidmiaaGreatDoorOutR
import Derived.Test.YtgdagknjnidmiaaGreatDoorCohP
set_option linter.unusedVariables false
namespace Go.Proofs.YtgdagknjnidmiaaGreatDoor
open Go.RowKit Go.Maps

def mpF (ks : List ByteArray) (blk : ByteArray → Nat) : ByteArray → Value := fun s => if hasS ks s = true then .map (some (blk s)) else .map none
/-- a map of periods -/
def PerM (w : World) (M b : Nat) (pk : List Int) : Prop := ∃ n, n ≤ M ∧ VI w (.bool false) b n pk (fun p => .bool (decide (p ∈ pk)))
theorem PerM.kept {w w' : World} {M b : Nat} {pk : List Int} {row : Option Nat} (h : PerM w M b pk) (k : w.grownBy w' row) (hr : some b ≠ row) : PerM w' M b pk := by
  obtain ⟨n, hn, hv⟩ := h
  exact ⟨n, hn, hv.kept k hr⟩
theorem PerM.mono {w : World} {M N b : Nat} {pk : List Int} (h : PerM w M b pk) (hN : M ≤ N) : PerM w N b pk := by
  obtain ⟨n, hn, hv⟩ := h
  exact ⟨n, Nat.le_trans hn hN, hv⟩
theorem putP (pk : List Int) (p : Int) : putI (fun q => .bool (decide (q ∈ pk))) p (.bool true) = fun q => .bool (decide (q ∈ addI pk p)) := by
  funext q
  unfold putI
  by_cases e : p = q
  · subst e
    rw [if_pos rfl, decide_eq_true (addI_mem.2 (.inr rfl))]
  · rw [if_neg e]
    show Value.bool (decide (q ∈ pk)) = Value.bool (decide (q ∈ addI pk p))
    congr 1
    rw [decide_eq_decide, addI_mem]
    exact ⟨Or.inl, fun h => h.elim id (fun h => absurd h.symm e)⟩
structure DidO (w : World) (b n1 M : Nat) (ks : List ByteArray) (blk : ByteArray → Nat) (pk : ByteArray → List Int) : Prop where
  map : VM w (.map none) b n1 ks (mpF ks blk)
  box : ∀ s, s ∈ ks → PerM w M (blk s) (pk s)
  ne : ∀ s, s ∈ ks → b < blk s
  inj : ∀ s t, s ∈ ks → t ∈ ks → blk s = blk t → s = t
section
variable {w w' w2 : World} {b n1 M q : Nat} {ks : List ByteArray} {blk : ByteArray → Nat} {pk : ByteArray → List Int} {s : ByteArray}
theorem DidO.made (w : World) (M : Nat) : DidO (w.alloc (.map #[] 0)) w.heap.size 0 M [] (fun _ => 0) (fun _ => []) :=
  ⟨VM.made w _, fun s hs => by simp at hs, fun s hs => by simp at hs, fun s t hs => by simp at hs⟩
theorem DidO.grown {row : Option Nat} (h : DidO w b n1 M ks blk pk) (k : w.grownBy w' row) (h1 : some b ≠ row) (h2 : ∀ s, s ∈ ks → some (blk s) ≠ row) : DidO w' b n1 M ks blk pk :=
  ⟨h.map.kept k h1, fun s hs => (h.box s hs).kept k (h2 s hs), h.ne, h.inj⟩
theorem DidO.same (h : DidO w b n1 M ks blk pk) (k : w.grownBy w' none) : DidO w' b n1 M ks blk pk := h.grown k (by simp) (fun _ _ => by simp)
theorem DidO.mono {N : Nat} (h : DidO w b n1 M ks blk pk) (hN : M ≤ N) : DidO w b n1 N ks blk pk := ⟨h.map, fun s hs => (h.box s hs).mono hN, h.ne, h.inj⟩
theorem DidO.lt (h : DidO w b n1 M ks blk pk) (hs : s ∈ ks) : blk s < w.heap.size := by
  obtain ⟨n, hn, hv⟩ := h.box s hs
  exact hv.lt
/-- a new one -/
theorem DidO.new (h : DidO w b n1 M ks blk pk) (hs : hasS ks s = false) (hq : w.heap.size = q)
    (hv : VM w2 (.map none) b (n1 + 1) (addK ks s) (putV (mpF ks blk) s (.map (some q)))) (k : (w.alloc (.map #[] 0)).grownBy w2 (some b)) :
    DidO w2 b (n1 + 1) M (addK ks s) (fun x => if sameS s x = true then q else blk x) (fun x => if sameS s x = true then [] else pk x) := by
  have hbl := h.map.lt
  have hns : s ∉ ks := fun e => by rw [hasS_mem.2 e] at hs; cases hs
  have hnew : ∀ x, x ∈ ks → ¬ sameS s x = true := fun x hx e => hns (by rw [sameS_eq.1 e]; exact hx)
  have hlt : ∀ x, x ∈ ks → blk x ≠ q := fun x hx e => by have := h.lt hx; omega
  refine ⟨?_, fun x hx => ?_, fun x hx => ?_, fun x y hx hy e => ?_⟩
  · have e : putV (mpF ks blk) s (.map (some q)) = mpF (addK ks s) (fun x => if sameS s x = true then q else blk x) := by
      funext x
      unfold putV mpF
      rw [hasS_addK]
      by_cases e : sameS s x = true
      · simp [e]
      · have e' : sameS s x = false := by simpa using e
        simp [e']
    rw [← e]
    exact hv
  · rcases addK_mem.1 hx with hx | rfl
    · rw [if_neg (hnew x hx), if_neg (hnew x hx)]
      exact ((h.box x hx).kept (World.grownBy_alloc w _ none) (by simp)).kept k (fun e => by have := Option.some.inj e; have := h.ne x hx; omega)
    · rw [if_pos (sameS_eq.2 rfl), if_pos (sameS_eq.2 rfl), ← hq]
      refine ⟨0, Nat.zero_le _, ?_⟩
      have hm := VI.made w (.bool false)
      exact hm.kept k (fun e => by have := Option.some.inj e; omega)
  · rcases addK_mem.1 hx with hx | rfl
    · rw [if_neg (hnew x hx)]; exact h.ne x hx
    · rw [if_pos (sameS_eq.2 rfl)]; omega
  · rcases addK_mem.1 hx with hx1 | hx1 <;> rcases addK_mem.1 hy with hy1 | hy1
    · rw [if_neg (hnew x hx1), if_neg (hnew y hy1)] at e
      exact h.inj x y hx1 hy1 e
    · rw [if_neg (hnew x hx1), if_pos (sameS_eq.2 hy1.symm)] at e
      exact absurd e (hlt x hx1)
    · rw [if_neg (hnew y hy1), if_pos (sameS_eq.2 hx1.symm)] at e
      exact absurd e.symm (hlt y hy1)
    · exact hx1.trans hy1.symm
/-- a period more -/
theorem DidO.upd {n : Nat} {p : Int} (h : DidO w b n1 M ks blk pk) (hs : s ∈ ks) (hn : n + 1 ≤ M) (hv : VI w' (.bool false) (blk s) (n + 1) (addI (pk s) p) (fun q => .bool (decide (q ∈ addI (pk s) p)))) (k : w.grownBy w' (some (blk s))) :
    DidO w' b n1 M ks blk (fun x => if sameS s x = true then addI (pk s) p else pk x) := by
  refine ⟨h.map.kept k (fun e => by have := Option.some.inj e; have := h.ne s hs; omega), fun x hx => ?_, h.ne, h.inj⟩
  show PerM w' M (blk x) (if sameS s x = true then addI (pk s) p else pk x)
  by_cases e : sameS s x = true
  · have es := sameS_eq.1 e
    subst es
    rw [if_pos e]
    exact ⟨n + 1, hn, hv⟩
  · rw [if_neg e]
    exact (h.box x hx).kept k (fun e' => e (sameS_eq.2 (h.inj s x hs hx (Option.some.inj e').symm)))
end
/-- the periods are those in which something was done -/
def PerOk (ks : List ByteArray) (pk : ByteArray → List Int) (H : ByteArray → Nat → Bool) : Prop := ∀ s, s ∈ ks → (pk s).Nodup ∧ ∀ p : Int, p ∈ pk s ↔ ∃ q : Nat, p = (q : Int) ∧ H s q = true
theorem PerOk.step {ks : List ByteArray} {pk : ByteArray → List Int} {H H' : ByteArray → Nat → Bool} {s : ByteArray} {P : Nat} (h : PerOk ks pk H) (hH : ∀ t q, H' t q = (H t q || (sameS s t && decide (P = q)))) : PerOk ks (fun x => if sameS s x = true then addI (pk s) (P : Int) else pk x) H' := by
  intro t ht
  show (if sameS s t = true then addI (pk s) (P : Int) else pk t).Nodup ∧ ∀ p : Int, p ∈ (if sameS s t = true then addI (pk s) (P : Int) else pk t) ↔ ∃ q : Nat, p = (q : Int) ∧ H' t q = true
  by_cases e : sameS s t = true
  · have es := sameS_eq.1 e
    subst es
    rw [if_pos e]
    refine ⟨addI_nodup (h s ht).1 _, fun p => ?_⟩
    rw [addI_mem, (h s ht).2 p]
    constructor
    · rintro (⟨q, e1, e2⟩ | rfl)
      · exact ⟨q, e1, by rw [hH, e2, Bool.true_or]⟩
      · exact ⟨P, rfl, by rw [hH, e, decide_eq_true rfl]; simp⟩
    · rintro ⟨q, rfl, e2⟩
      rw [hH, e, Bool.true_and, Bool.or_eq_true, decide_eq_true_eq] at e2
      rcases e2 with e2 | rfl
      · exact .inl ⟨q, rfl, e2⟩
      · exact .inr rfl
  · rw [if_neg e]
    have e' : sameS s t = false := by simpa using e
    refine ⟨(h t ht).1, fun p => ?_⟩
    rw [(h t ht).2 p]
    constructor
    · rintro ⟨q, e1, e2⟩; exact ⟨q, e1, by rw [hH, e', Bool.false_and, Bool.or_false]; exact e2⟩
    · rintro ⟨q, e1, e2⟩; rw [hH, e', Bool.false_and, Bool.or_false] at e2; exact ⟨q, e1, e2⟩
theorem PerOk.new {ks : List ByteArray} {pk : ByteArray → List Int} {H : ByteArray → Nat → Bool} {s : ByteArray} (h : PerOk ks pk H) (hs : ∀ q, H s q = false) : PerOk (addK ks s) (fun x => if sameS s x = true then [] else pk x) H := by
  intro t ht
  show (if sameS s t = true then [] else pk t).Nodup ∧ ∀ p : Int, p ∈ (if sameS s t = true then [] else pk t) ↔ ∃ q : Nat, p = (q : Int) ∧ H t q = true
  by_cases e : sameS s t = true
  · have es := sameS_eq.1 e
    subst es
    rw [if_pos e]
    refine ⟨List.nodup_nil, fun p => ⟨fun h => (by cases h), ?_⟩⟩
    rintro ⟨q, -, e2⟩
    rw [hs q] at e2; cases e2
  · rw [if_neg e]
    rcases addK_mem.1 ht with ht | rfl
    · exact h t ht
    · exact absurd (sameS_eq.2 rfl) e
/-- what the rounds over who did something keep -/
structure CSt (w0 : World) (b n1 r M : Nat) (ks dn : List ByteArray) (cnt : Nat) (blk : ByteArray → Nat) (pk : ByteArray → List Int) (go n m : Nat) (rb : Nat → Nat) (f : Nat → Nat → Nat) (w : World) : Prop where
  vr : VR w (.map none) b r n1 ks (mpF ks blk) dn cnt
  box : ∀ s, s ∈ ks → PerM w M (blk s) (pk s)
  out : OutR w go n m rb f
  bel : Below w0.heap.size w0 w
  lo : w0.heap.size ≤ b ∧ b < go ∧ go < r ∧ (∀ s, s ∈ ks → blk s < go) ∧ ∀ i, i < m → rb i < r
theorem CSt.grown {w0 w w' : World} {b n1 r M : Nat} {ks dn : List ByteArray} {cnt : Nat} {blk : ByteArray → Nat} {pk : ByteArray → List Int} {go n m : Nat} {rb : Nat → Nat} {f : Nat → Nat → Nat} {row : Option Nat} (h : CSt w0 b n1 r M ks dn cnt blk pk go n m rb f w) (k : w.grownBy w' row) (hr : ∀ g, row = some g → r < g) : CSt w0 b n1 r M ks dn cnt blk pk go n m rb f w' := by
  obtain ⟨l1, l2, l3, l4, l5⟩ := h.lo
  exact ⟨h.vr.kept k (fun e => by have := hr b e.symm; omega) (fun e => by have := hr r e.symm; omega), fun s hs => (h.box s hs).kept k (fun e => by have := hr _ e.symm; have := l4 s hs; omega),
    h.out.apart k (fun e => by have := hr _ e; omega) (fun i hi e => by have := hr _ e; have := l5 i hi; omega), h.bel.grown k h.bel.size (fun g hg => by have := hr g hg; omega), h.lo⟩
/-- the table while row k is being counted: dn have been counted -/
def fRow (ks dn : List ByteArray) (F : ByteArray → Nat) (H : ByteArray → Nat → Bool) (k : Nat) : Nat → Nat → Nat := fun i j => if i = k then coC dn F H i j else coC ks F H i j
/-- .. and of one more the first j periods -/
def fMid (ks dn : List ByteArray) (s : ByteArray) (F : ByteArray → Nat) (H : ByteArray → Nat → Bool) (k j : Nat) : Nat → Nat → Nat := fun i j' => if i = k then (if j' < j then coC (dn ++ [s]) F H i j' else coC dn F H i j') else coC ks F H i j'
section
variable {w0 w w' : World} {b n1 r M : Nat} {ks dn : List ByteArray} {cnt : Nat} {blk : ByteArray → Nat} {pk : ByteArray → List Int} {go n m : Nat} {rb : Nat → Nat} {f f' : Nat → Nat → Nat}
theorem CSt.congr (h : CSt w0 b n1 r M ks dn cnt blk pk go n m rb f w) (hf : ∀ i j, i < m → j < n → f i j = f' i j) : CSt w0 b n1 r M ks dn cnt blk pk go n m rb f' w :=
  ⟨h.vr, h.box, h.out.congr hf, h.bel, h.lo⟩
theorem CSt.inc {i0 j0 : Nat} (h : CSt w0 b n1 r M ks dn cnt blk pk go n m rb f w) (hi : i0 < m) (hj : j0 < n) (f' : Nat → Nat → Nat) (hf : ∀ i j, i < m → j < n → f' i j = if i = i0 ∧ j = j0 then f i0 j0 + 1 else f i j) :
    CSt w0 b n1 r M ks dn cnt blk pk go n m rb f' (w.setCell ⟨rb i0, j0, none⟩ (.int .i64 ((f i0 j0 : Int) + 1))) := by
  have k : w.grownBy (w.setCell ⟨rb i0, j0, none⟩ (.int .i64 ((f i0 j0 : Int) + 1))) (some (rb i0)) := by
    refine ⟨rfl, rfl, rfl, by simp [World.setCell], fun i hi hne => ?_⟩
    exact Below.heap_setCell w ⟨rb i0, j0, none⟩ _ i (by rintro rfl; exact hne rfl)
  obtain ⟨l1, l2, l3, l4, l5⟩ := h.lo
  have a1 := h.out.lo i0 hi
  have a2 := l5 i0 hi
  exact ⟨h.vr.kept k (fun e => by have := Option.some.inj e; omega) (fun e => by have := Option.some.inj e; omega), fun s hs => (h.box s hs).kept k (fun e => by have := Option.some.inj e; have := l4 s hs; omega), h.out.inc hi hj f' hf,
    h.bel.grown k h.bel.size (fun g hg => by have := Option.some.inj hg; omega), h.lo⟩
/-- an entry has come -/
theorem CSt.next {s : ByteArray} {cnt' : Nat} (h : CSt w0 b n1 r M ks dn cnt blk pk go n m rb f w) (hv : VR w' (.map none) b r n1 ks (mpF ks blk) (dn ++ [s]) cnt') (k : w.grownBy w' (some r)) : CSt w0 b n1 r M ks (dn ++ [s]) cnt' blk pk go n m rb f w' := by
  obtain ⟨l1, l2, l3, l4, l5⟩ := h.lo
  exact ⟨hv, fun s hs => (h.box s hs).kept k (fun e => by have := Option.some.inj e; have := l4 s hs; omega), h.out.apart k (fun e => by have := Option.some.inj e; omega) (fun i hi e => by have := Option.some.inj e; have := l5 i hi; omega),
    h.bel.grown k h.bel.size (fun g hg => by have := Option.some.inj hg; omega), h.lo⟩
end
theorem mid_step {ks dn : List ByteArray} {s : ByteArray} {F : ByteArray → Nat} {H : ByteArray → Nat → Bool} {k j : Nat} (i j' : Nat) : fMid ks dn s F H k (j + 1) i j' = if i = k ∧ j' = j then coC (dn ++ [s]) F H k j else fMid ks dn s F H k j i j' := by
  unfold fMid
  by_cases h1 : i = k
  · subst h1
    rw [if_pos rfl, if_pos rfl]
    by_cases h2 : j' = j
    · subst h2
      rw [if_pos (by omega), if_pos ⟨rfl, rfl⟩]
    · rw [if_neg (show ¬ (i = i ∧ j' = j) from fun h => h2 h.2)]
      by_cases h3 : j' < j
      · rw [if_pos (by omega), if_pos h3]
      · rw [if_neg (by omega), if_neg h3]
  · rw [if_neg h1, if_neg h1, if_neg (show ¬ (i = k ∧ j' = j) from fun h => h1 h.1)]
theorem mid_at {ks dn : List ByteArray} {s : ByteArray} {F : ByteArray → Nat} {H : ByteArray → Nat → Bool} {k j : Nat} : fMid ks dn s F H k j k j = coC dn F H k j := by
  unfold fMid
  rw [if_pos rfl, if_neg (Nat.lt_irrefl j)]
end Go.Proofs.YtgdagknjnidmiaaGreatDoor
