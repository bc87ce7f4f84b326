/- A map of one's own whose keys are strings, read as the list of its keys and what stands at each. -/
import Derived.Test.YtgdagknjnidmiaaGreatDoorM1
import Derived.Maps.OwnSet
set_option linter.unusedVariables false
namespace Go.Proofs.YtgdagknjnidmiaaGreatDoor
open Go.RowKit Go.Maps

/-- an element as it is -/
def heldElem (v : Value) : Option (DataW Value × List MemPlace) := some (.held v, [])
/-- one string is another -/
def sameS (x s : ByteArray) : Bool := decide (x.data.toList = s.data.toList)
theorem sameS_eq {x s : ByteArray} : sameS x s = true ↔ x = s := by
  unfold sameS
  rw [decide_eq_true_eq]
  constructor
  · intro h
    cases x with
    | mk x =>
      cases s with
      | mk s => exact congrArg ByteArray.mk (Array.toList_inj.1 h)
  · rintro rfl; rfl
/-- the keys behind a store -/
def addK (ks : List ByteArray) (s : ByteArray) : List ByteArray := if hasS ks s = true then ks else ks ++ [s]
/-- what stands at the keys behind a store -/
def putV (g : ByteArray → Value) (s : ByteArray) (v : Value) : ByteArray → Value := fun x => if sameS s x = true then v else g x
theorem putV_same (g : ByteArray → Value) (s : ByteArray) (v : Value) : putV g s v s = v := by unfold putV; rw [if_pos (sameS_eq.2 rfl)]
theorem putV_other (g : ByteArray → Value) {s x : ByteArray} (v : Value) (h : s ≠ x) : putV g s v x = g x := by unfold putV; rw [if_neg (fun e => h (sameS_eq.1 e))]
theorem hasS_addK (ks : List ByteArray) (s x : ByteArray) : hasS (addK ks s) x = (hasS ks x || sameS s x) := by
  unfold addK
  by_cases h : hasS ks s = true
  · rw [if_pos h]
    by_cases e : sameS s x = true
    · have := sameS_eq.1 e; subst this; rw [h]; rfl
    · have e' : sameS s x = false := by simpa using e
      rw [e', Bool.or_false]
  · rw [if_neg h, hasS_snoc]; rfl
theorem hasS_mem {ks : List ByteArray} {s : ByteArray} : hasS ks s = true ↔ s ∈ ks := by
  unfold hasS
  rw [List.any_eq_true]
  constructor
  · rintro ⟨x, hx, e⟩
    have := sameS_eq.1 e
    subst this
    exact hx
  · intro h
    exact ⟨s, h, by simp⟩
theorem addK_nodup {ks : List ByteArray} (h : ks.Nodup) (s : ByteArray) : (addK ks s).Nodup := by
  unfold addK
  split
  · exact h
  · rename_i hs
    rw [List.nodup_append]
    refine ⟨h, by simp, fun a ha b hb e => ?_⟩
    obtain rfl := List.mem_singleton.1 hb
    subst e
    exact hs (hasS_mem.2 ha)
theorem addK_mem {ks : List ByteArray} {s x : ByteArray} : x ∈ addK ks s ↔ x ∈ ks ∨ x = s := by
  rw [← hasS_mem, hasS_addK, Bool.or_eq_true, hasS_mem, sameS_eq]
  exact ⟨fun h => h.imp id Eq.symm, fun h => h.imp id Eq.symm⟩

/-- block b is a map whose keys are the strings ks, with g at each; z: what a look-up of another key gives; n: how many were stored at most -/
def VM (w : World) (z : Value) (b n : Nat) (ks : List ByteArray) (g : ByteArray → Value) : Prop :=
  ∃ D : DataW Value, w.ownsMap Tryz.prog 9 heldElem b n D ∧ IsMap D ∧ ∀ s : ByteArray, Maps.has D (.string s.data.toList) = hasS ks s ∧ D.atKey (.string s.data.toList) (.held z) = .held (g s)
section
variable {w w' : World} {z : Value} {b n : Nat} {ks : List ByteArray} {g : ByteArray → Value}
theorem VM.made (w : World) (z : Value) : VM (w.alloc (.map #[] 0)) z w.heap.size 0 [] (fun _ => z) :=
  ⟨.map [], World.ownsMap_made _ _ _ _, isMap_empty, fun s => ⟨rfl, rfl⟩⟩
theorem VM.lt (h : VM w z b n ks g) : b < w.heap.size := by
  obtain ⟨D, hD, _⟩ := h
  exact hD.lt
theorem VM.kept {row : Option Nat} (h : VM w z b n ks g) (hg : w.grownBy w' row) (hne : some b ≠ row) : VM w' z b n ks g := by
  obtain ⟨D, hD, h2⟩ := h
  exact ⟨D, hD.kept hg hne, h2⟩
theorem VM.below (h : VM w z b n ks g) (hb : Below w.heap.size w w') : VM w' z b n ks g := h.kept (grown_of_below hb none) (by simp)
theorem VM.alloc (h : VM w z b n ks g) (o : Obj) : VM (w.alloc o) z b n ks g := h.kept (World.grownBy_alloc w o none) (by simp)
theorem VM.drewN (h : VM w z b n ks g) (m : Nat) : VM (w.drewN m) z b n ks g := h
theorem VM.blk (h : VM w z b n ks g) (e : w'.heap[b]? = w.heap[b]?) : VM w' z b n ks g := by
  obtain ⟨D, ⟨es, clock, hb, h2⟩, h3⟩ := h
  exact ⟨D, ⟨es, clock, e.trans hb, h2⟩, h3⟩
/-- m[s] -/
theorem VM.look {mt et : TypeId} (h : VM w z b n ks g) (hu : (Tryz.prog).underlying mt = some (.map 9 et)) (hz : (zeroValue et).run Tryz.prog w = .ok z w) (s : ByteArray) (hs : s.size ≤ maxLen) :
    (Instr.lookup mt (.map (some b)) (.string s) false).run Tryz.prog w = .ok (g s) w := by
  obtain ⟨D, hown, hD, hat⟩ := h
  obtain ⟨v, ps, hrun, hv⟩ := hown.lookup key_str hu hz (zd := .held z) (zp := []) rfl (WideMaps.keyOf_string_mk Tryz.underlying9 hs)
  have h5 : DataW.held v = D.atKey (.string s.data.toList) (.held z) := congrArg Prod.fst (Option.some.inj hv)
  have h6 : v = g s := DataW.held.inj (h5.trans (hat s).2)
  subst h6
  exact hrun
/-- v, ok := m[s] -/
theorem VM.look_ok {mt et : TypeId} (h : VM w z b n ks g) (hu : (Tryz.prog).underlying mt = some (.map 9 et)) (hz : (zeroValue et).run Tryz.prog w = .ok z w) (s : ByteArray) (hs : s.size ≤ maxLen) :
    (Instr.lookup mt (.map (some b)) (.string s) true).run Tryz.prog w = .ok (.tuple #[g s, .bool (hasS ks s)]) w := by
  obtain ⟨D, hown, hD, hat⟩ := h
  obtain ⟨v, ps, hrun, hv⟩ := hown.look_ok key_str hu hz (zd := .held z) (zp := []) rfl (WideMaps.keyOf_string_mk Tryz.underlying9 hs)
  have h5 : DataW.held v = D.atKey (.string s.data.toList) (.held z) := congrArg Prod.fst (Option.some.inj hv)
  have h6 : v = g s := DataW.held.inj (h5.trans (hat s).2)
  have h7 := (hat s).1
  subst h6
  rw [← h7]
  exact hrun
/-- m[s] = v -/
theorem wpList_update_vm {ops : Array Oper} {rest : List Oper} {o : Oper} {a : Act} {Q : Exit → Act → World → Prop} (w : World) (hg : o.guard = none) (m x v : Operand) (mt et : TypeId) (hop : o.op = Op.mapUpdate mt m x v) (hu : (Tryz.prog).underlying mt = some (.map 9 et))
    (z : Value) (b n : Nat) (ks : List ByteArray) (g : ByteArray → Value) (hm : a.eval m = .map (some b)) (hs : VM w z b n ks g) (hn : n < maxLen) (s : ByteArray) (y : Value) (hx : a.eval x = .string s) (hv : a.eval v = y) (hlen : s.size ≤ maxLen)
    (hK : ∀ w', VM w' z b (n + 1) (addK ks s) (putV g s y) → w.grownBy w' (some b) → wpList Tryz.prog ops Q rest (a.put o.dst undef) w') : wpList Tryz.prog ops Q (o :: rest) a w := by
  obtain ⟨D, hown, hD, hat⟩ := hs
  refine wpList_mapUpdate_own w hg m x v _ hop 9 et key_str hu _ b n D hm hown hn _ _ _ hx hv (WideMaps.keyOf_string_mk Tryz.underlying9 hlen) (.held y) [] rfl ?_
  intro w' h1 h2
  refine hK w' ⟨_, h1, hD.put _ _, fun t => ?_⟩ h2
  rw [hasS_addK]
  by_cases he : s.data.toList = t.data.toList
  · have e1 : sameS s t = true := decide_eq_true he
    have e2 := sameS_eq.1 e1
    subst e2
    rw [has_put_same hD (by unfold WideAt.IsKeyLit; trivial), atKey_put_same hD (by unfold WideAt.IsKeyLit; trivial), putV_same]
    simp [e1]
  · have e1 : sameS s t = false := by unfold sameS; simpa using he
    have hne : (Lit.string t.data.toList) ≠ Lit.string s.data.toList := by intro e; injection e with e; exact he e.symm
    rw [has_put_other hne, atKey_put_other hne, (hat t).1, (hat t).2, putV_other g y (fun e => by subst e; exact he rfl)]
    simp [e1]
end
end Go.Proofs.YtgdagknjnidmiaaGreatDoor
