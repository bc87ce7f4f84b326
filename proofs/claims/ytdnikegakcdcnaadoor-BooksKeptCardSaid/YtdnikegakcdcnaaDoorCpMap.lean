/- A map[string]Coupon of one's own, read as a list of coupons. -/
import Derived.Test.YtdnikegakcdcnaaDoorCheckCp
import Derived.Test.YtdnikegakcdcnaaDoorSeen
import Derived.Maps.OwnSet
set_option linter.unusedVariables false
namespace Go.Proofs.YtdnikegakcdcnaaDoor
open Go.RowKit Go.Maps

/-- an element as it is -/
def anyElem (v : Value) : Option (DataW Value × List MemPlace) := some (.held v, [])
theorem zero_cp (w : World) : (zeroValue 144).run Tryd.prog w = .ok zeroCp.agg w := by kernel_rfl
theorem idxGo_cons (x : ByteArray) (l : List ByteArray) (s : ByteArray) (i : Nat) : idxGo (x :: l) s i = if eqS x s = true then (i : Int) else idxGo l s (i + 1) := rfl
theorem idxGo_app (l m : List ByteArray) (s : ByteArray) : ∀ i, idxGo (l ++ m) s i = if hasS l s = true then idxGo l s i else idxGo m s (i + l.length) := by
  induction l with
  | nil => intro i; simp [hasS]
  | cons x l ih =>
    intro i
    have e : hasS (x :: l) s = (eqS x s || hasS l s) := by simp [hasS, eqS]
    rw [e, List.cons_append, idxGo_cons, idxGo_cons]
    by_cases h : eqS x s = true
    · simp [h]
    · rw [if_neg h, if_neg h, ih (i + 1)]
      have h' : eqS x s = false := by simpa using h
      rw [h', Bool.false_or, List.length_cons, show i + 1 + l.length = i + (l.length + 1) by omega]
theorem hasS_cpAt (l : List Cp) (s : ByteArray) : hasS (l.map Cp.code) s = decide (0 ≤ cpAt l s) := hasS_idx _ _
theorem cpGet_snoc (l : List Cp) (x : Cp) (s : ByteArray) (hx : hasS (l.map Cp.code) x.code = false) : cpGet (l ++ [x]) s = if eqS x.code s = true then x else cpGet l s := by
  have ha : cpAt (l ++ [x]) s = if hasS (l.map Cp.code) s = true then cpAt l s else if eqS x.code s = true then (l.length : Int) else -1 := by
    unfold cpAt idxG
    rw [List.map_append, idxGo_app]
    simp [idxGo]
  have hb := cpAt_bd l s
  by_cases h1 : eqS x.code s = true
  · rw [if_pos h1]
    have e := eqS_eq.1 h1
    subst e
    rw [hx, if_neg (by decide), if_pos h1] at ha
    unfold cpGet
    rw [ha, if_neg (by omega)]
    simp
  · rw [if_neg h1]
    unfold cpGet
    rw [ha]
    by_cases h2 : hasS (l.map Cp.code) s = true
    · rw [if_pos h2]
      rw [hasS_cpAt, decide_eq_true_eq] at h2
      rw [if_neg (by omega), if_neg (by omega)]
      have : (cpAt l s).toNat < l.length := by omega
      simp [List.getD_eq_getElem?_getD, List.getElem?_append_left this]
    · rw [if_neg h2, if_neg h1, if_pos (by omega)]
      rw [hasS_cpAt, decide_eq_true_eq] at h2
      rw [if_pos (by omega)]
/-- block b is a map of the coupons l by their codes, at most n of them -/
def CpMap (w : World) (b n : Nat) (l : List Cp) : Prop :=
  ∃ D : DataW Value, w.ownsMap Tryd.prog 9 anyElem b n D ∧ IsMap D ∧ ∀ s : ByteArray, Maps.has D (.string s.data.toList) = hasS (l.map Cp.code) s ∧ D.atKey (.string s.data.toList) (.held zeroCp.agg) = .held (cpGet l s).agg
theorem CpMap.made (w : World) : CpMap (w.alloc (.map #[] 0)) w.heap.size 0 [] :=
  ⟨.map [], World.ownsMap_made _ _ _ _, isMap_empty, fun s => ⟨rfl, rfl⟩⟩
theorem CpMap.lt {w : World} {b n : Nat} {l : List Cp} (h : CpMap w b n l) : b < w.heap.size := by
  obtain ⟨D, hD, _⟩ := h
  exact hD.lt
theorem CpMap.kept {w w' : World} {b n : Nat} {l : List Cp} {row : Option Nat} (h : CpMap w b n l) (hg : w.grownBy w' row) (hne : some b ≠ row) : CpMap w' b n l := by
  obtain ⟨D, hD, h2⟩ := h
  exact ⟨D, hD.kept hg hne, h2⟩
theorem CpMap.below {w w' : World} {b n : Nat} {l : List Cp} (h : CpMap w b n l) (hb : Below w.heap.size w w') : CpMap w' b n l := h.kept (grown_of_below hb none) (by simp)
theorem CpMap.alloc {w : World} {b n : Nat} {l : List Cp} (h : CpMap w b n l) (o : Obj) : CpMap (w.alloc o) b n l := h.kept (World.grownBy_alloc w o none) (by simp)
theorem CpMap.drew {w : World} {b n : Nat} {l : List Cp} (h : CpMap w b n l) : CpMap w.drew b n l := h
theorem CpMap.blk {w w' : World} {b n : Nat} {l : List Cp} (h : CpMap w b n l) (e : w'.heap[b]? = w.heap[b]?) : CpMap w' b n l := by
  obtain ⟨D, ⟨es, clock, hb, h2⟩, h3⟩ := h
  exact ⟨D, ⟨es, clock, e.trans hb, h2⟩, h3⟩
/-- c, ok := m[s] -/
theorem CpMap.look {w : World} {b n : Nat} {l : List Cp} (h : CpMap w b n l) (s : ByteArray) (hs : s.size ≤ maxLen) :
    (Instr.lookup 146 (.map (some b)) (.string s) true).run Tryd.prog w = .ok (.tuple #[(cpGet l s).agg, .bool (hasS (l.map Cp.code) s)]) w := by
  obtain ⟨D, hown, hD, hat⟩ := h
  obtain ⟨v, ps, hrun, hv⟩ := hown.look_ok key_str Tryd.underlying146 (zero_cp w) (zd := .held zeroCp.agg) (zp := []) rfl (WideMaps.keyOf_string_mk Tryd.underlying9 hs)
  have h5 : DataW.held v = D.atKey (.string s.data.toList) (.held zeroCp.agg) := congrArg Prod.fst (Option.some.inj hv)
  have h6 : v = (cpGet l s).agg := DataW.held.inj (h5.trans (hat s).2)
  have h7 := (hat s).1
  subst h6
  rw [← h7]
  exact hrun
/-- m[x.code] = x -/
theorem wpList_update_cp {ops : Array Oper} {rest : List Oper} {o : Oper} {a : Act} {Q : Exit → Act → World → Prop} (w : World) (hg : o.guard = none) (m x v : Operand) (hop : o.op = Op.mapUpdate 146 m x v)
    (b n : Nat) (l : List Cp) (hm : a.eval m = .map (some b)) (hs : CpMap w b n l) (hn : n < maxLen) (y : Cp) (hx : a.eval x = .string y.code) (hv : a.eval v = y.agg) (hlen : y.code.size ≤ maxLen) (hno : hasS (l.map Cp.code) y.code = false)
    (hK : ∀ w', CpMap w' b (n + 1) (l ++ [y]) → w.grownBy w' (some b) → wpList Tryd.prog ops Q rest (a.put o.dst undef) w') : wpList Tryd.prog ops Q (o :: rest) a w := by
  obtain ⟨D, hown, hD, hat⟩ := hs
  refine wpList_mapUpdate_own w hg m x v _ hop 9 144 key_str Tryd.underlying146 _ b n D hm hown hn _ _ _ hx hv (WideMaps.keyOf_string_mk Tryd.underlying9 hlen) (.held y.agg) [] rfl ?_
  intro w' h1 h2
  refine hK w' ⟨_, h1, hD.put _ _, fun s => ?_⟩ h2
  rw [List.map_append, List.map_singleton, hasS_snoc, cpGet_snoc l y s hno]
  by_cases he : y.code.data.toList = s.data.toList
  · have e1 : eqS y.code s = true := decide_eq_true he
    rw [if_pos e1, ← he, has_put_same hD (by unfold WideAt.IsKeyLit; trivial), atKey_put_same hD (by unfold WideAt.IsKeyLit; trivial)]
    simp
  · have e1 : ¬ eqS y.code s = true := by unfold eqS; simpa using he
    have hne : (Lit.string s.data.toList) ≠ Lit.string y.code.data.toList := by intro e; injection e with e; exact he e.symm
    rw [if_neg e1, has_put_other hne, atKey_put_other hne, (hat s).1, (hat s).2]
    simp [he]
end Go.Proofs.YtdnikegakcdcnaaDoor
