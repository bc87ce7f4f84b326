/- Ranging over a map by strings of one's own: what has come so far, as a list. -/
import Derived.Test.YtgdagknjnidmiaaGreatDoorVKeys
import Derived.Maps.RangeWalk
set_option linter.unusedVariables false
namespace Go.Proofs.YtgdagknjnidmiaaGreatDoor
open Go.RowKit Go.Maps

theorem key_inv {s : ByteArray} {kl : Lit} (h : keyOf Tryz.prog 9 (.string s) = some kl) : kl = .string s.data.toList ∧ s.size ≤ maxLen := by
  have hk : (Tryz.prog).underlying 9 = some .string := Tryz.underlying9
  simp [keyOf, mapKey, hk] at h
  exact ⟨h.2.symm, h.1⟩
theorem key_shape {key : Value} {kl : Lit} (h : keyOf Tryz.prog 9 key = some kl) : ∃ s, key = .string s := by
  have hk : (Tryz.prog).underlying 9 = some .string := Tryz.underlying9
  cases key <;> simp [keyOf, hk, mapKey] at h
  exact ⟨_, rfl⟩
theorem hasS_nil (s : ByteArray) : hasS [] s = false := rfl
/-- a loop over a map under way: the keys dn have come, cnt are still to come -/
def VR (w : World) (z : Value) (b r n : Nat) (ks : List ByteArray) (g : ByteArray → Value) (dn : List ByteArray) (cnt : Nat) : Prop :=
  ∃ (D : DataW Value) (lf : Lit → Bool), w.ranges Tryz.prog 9 heldElem b r n D lf cnt ∧ IsMap D ∧ (∀ s : ByteArray, Maps.has D (.string s.data.toList) = hasS ks s ∧ D.atKey (.string s.data.toList) (.held z) = .held (g s)) ∧
    (∀ s : ByteArray, lf (.string s.data.toList) = (hasS ks s && !hasS dn s)) ∧ dn.Nodup ∧ ∀ s ∈ dn, s ∈ ks
section
variable {w w' : World} {z : Value} {b r n cnt : Nat} {ks dn : List ByteArray} {g : ByteArray → Value}
theorem VR.vm (h : VR w z b r n ks g dn cnt) : VM w z b n ks g := by
  obtain ⟨D, lf, h1, h2, h3, -⟩ := h
  exact ⟨D, h1.owns, h2, h3⟩
theorem VR.left_eq (h : VR w z b r n ks g dn cnt) : w.rangeLeft b r = cnt := by
  obtain ⟨D, lf, h1, -⟩ := h
  exact h1.left_eq
theorem VR.lt (h : VR w z b r n ks g dn cnt) : b < w.heap.size ∧ r < w.heap.size := by
  obtain ⟨D, lf, h1, -⟩ := h
  exact ⟨h1.owns.lt, h1.lt⟩
theorem VR.kept {row : Option Nat} (h : VR w z b r n ks g dn cnt) (hg : w.grownBy w' row) (hb : some b ≠ row) (hr : some r ≠ row) : VR w' z b r n ks g dn cnt := by
  obtain ⟨D, lf, h1, h2⟩ := h
  exact ⟨D, lf, h1.kept hg hb hr, h2⟩
theorem VR.below (h : VR w z b r n ks g dn cnt) (hb : Below w.heap.size w w') : VR w' z b r n ks g dn cnt := h.kept (grown_of_below hb none) (by simp) (by simp)
theorem VR.alloc (h : VR w z b r n ks g dn cnt) (o : Obj) : VR (w.alloc o) z b r n ks g dn cnt := h.kept (World.grownBy_alloc w o none) (by simp) (by simp)
theorem VR.sub (h : VR w z b r n ks g dn cnt) : dn.Nodup ∧ ∀ s ∈ dn, s ∈ ks := by
  obtain ⟨D, lf, h1, h2, h3, h4, h5⟩ := h
  exact h5
variable {ops : Array Oper} {rest : List Oper} {o : Oper} {a : Act} {Q : Exit → Act → World → Prop}
/-- range m -/
theorem wpList_range_vm (w : World) (hg : o.guard = none) (m : Operand) (t et : TypeId) (hop : o.op = Op.range t m) (hu : (Tryz.prog).underlying t = some (.map 9 et)) (z : Value) (b n : Nat) (ks : List ByteArray) (g : ByteArray → Value) (hm : a.eval m = .map (some b)) (h : VM w z b n ks g)
    (hK : ∀ w' cnt, VR w' z b w.heap.size n ks g [] cnt → w.grownBy w' none → w'.heap.size = w.heap.size + 1 → wpList Tryz.prog ops Q rest (a.put o.dst (.pointer (some ⟨w.heap.size, 0, none⟩))) w') : wpList Tryz.prog ops Q (o :: rest) a w := by
  obtain ⟨D, hown, hD, hat⟩ := h
  refine wpList_range_own w hg m t hop _ et key_str hu heldElem b n D hm hown ?_
  intro w' r1 r2 r3
  exact hK w' _ ⟨D, _, r1, hD, hat, fun s => by rw [(hat s).1, hasS_nil]; simp, List.nodup_nil, by simp⟩ r2 r3
/-- the step -/
theorem wpList_next_vm (w : World) (hg : o.guard = none) (it : Operand) (hop : o.op = Op.next it false) (z : Value) (b r n cnt : Nat) (ks dn : List ByteArray) (g : ByteArray → Value) (hit : a.eval it = .pointer (some ⟨r, 0, none⟩)) (h : VR w z b r n ks g dn cnt) (hnd : ks.Nodup)
    (hDone : dn.Perm ks → wpList Tryz.prog ops Q rest (a.put o.dst (.tuple #[.bool false])) w)
    (hMore : ∀ s w' cnt', s ∈ ks → s ∉ dn → s.size ≤ maxLen → VR w' z b r n ks g (dn ++ [s]) cnt' → cnt' < cnt → w.grownBy w' (some r) → w'.heap.size = w.heap.size → (Instr.entry (.pointer (some ⟨r, 0, none⟩))).run Tryz.prog w' = .ok (.tuple #[.string s, g s]) w' →
      wpList Tryz.prog ops Q rest (a.put o.dst (.tuple #[.bool true, .string s, g s])) w') : wpList Tryz.prog ops Q (o :: rest) a w := by
  obtain ⟨D, lf, h1, hD, hat, hlf, hdn, hsub⟩ := h
  refine wpList_next_ranges w hg it hop 9 key_str heldElem Value.string id (fun key kl h => key_shape h) (fun v y _ => ⟨v, rfl⟩) b r n D lf cnt hit h1 ?_ ?_
  · intro _ hl
    refine hDone ((List.perm_ext_iff_of_nodup hdn hnd).2 fun s => ⟨hsub s, fun hs => ?_⟩)
    have e := hlf s
    rw [hl, hasS_mem.2 hs] at e
    cases hd : hasS dn s
    · rw [hd] at e; cases e
    · exact hasS_mem.1 hd
  · intro s c kl y w' cnt' hk hlk hR hatk hrg hlt hgr hsz hen
    obtain ⟨rfl, hsz9⟩ := key_inv hk
    have e := hlf s
    rw [hlk] at e
    obtain ⟨ha, hb⟩ : hasS ks s = true ∧ hasS dn s = false := by simpa using e.symm
    clear e
    have hc : c = g s := by
      have h5 := hatk (.held z)
      rw [(hat s).2] at h5
      have h6 : (DataW.held c, ([] : List MemPlace)) = y := Option.some.inj hR
      rw [← h6] at h5
      exact (DataW.held.inj h5).symm
    subst hc
    have hnm : s ∉ dn := fun h => by rw [hasS_mem.2 h] at hb; cases hb
    refine hMore s w' cnt' (hasS_mem.1 ha) hnm hsz9 ⟨D, _, hrg, hD, hat, fun t => ?_, ?_, ?_⟩ hlt hgr hsz hen
    · show (lf (.string t.data.toList) && !(Lit.string t.data.toList).sameKey (.string s.data.toList)) = _
      rw [hlf t, hasS_snoc]
      have e3 : (Lit.string t.data.toList).sameKey (.string s.data.toList) = decide (s.data.toList = t.data.toList) := by
        show (t.data.toList == s.data.toList) = _
        rw [Bool.eq_iff_iff, beq_iff_eq, decide_eq_true_eq]
        exact ⟨Eq.symm, Eq.symm⟩
      rw [e3]
      cases hasS ks t <;> cases hasS dn t <;> cases decide (s.data.toList = t.data.toList) <;> rfl
    · rw [List.nodup_append]
      refine ⟨hdn, by simp, fun x hx y hy e => ?_⟩
      obtain rfl := List.mem_singleton.1 hy
      subst e
      exact hnm hx
    · intro t ht
      rcases List.mem_append.1 ht with ht | ht
      · exact hsub t ht
      · obtain rfl := List.mem_singleton.1 ht
        exact hasS_mem.1 ha
end
end Go.Proofs.YtgdagknjnidmiaaGreatDoor
