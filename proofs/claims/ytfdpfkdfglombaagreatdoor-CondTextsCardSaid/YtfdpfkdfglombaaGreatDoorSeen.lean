/- A set of strings as a map[string]bool that the call itself made. -/
import Derived.Test.YtfdpfkdfglombaaGreatDoorStream
import Derived.Maps.Views
import Derived.Maps.OwnOps
set_option linter.unusedVariables false
namespace Go.Proofs.YtfdpfkdfglombaaGreatDoor
open Go.RowKit Go.Maps

theorem key_str : Keyed Tryz.prog 9 := string_keyed Tryz.underlying9
theorem zero_bool (w : World) : (zeroValue 4).run Tryz.prog w = .ok (.bool false) w := by kernel_rfl

/-- one of the strings is s -/
def hasS (l : List ByteArray) (s : ByteArray) : Bool := l.any fun x => decide (x.data.toList = s.data.toList)

theorem hasS_snoc (l : List ByteArray) (x s : ByteArray) : hasS (l ++ [x]) s = (hasS l s || decide (x.data.toList = s.data.toList)) := by
  simp [hasS]

/-- a search by an id: it tells whether there is one -/
def IdxOut (w : World) (b : Bool) (e : Ending) (w' : World) : Prop := ∃ r : Int, e = .returned (.int .i64 r) ∧ decide (0 ≤ r) = b ∧ Below w.heap.size w w'
theorem hasS_hit {l : List ByteArray} {s x : ByteArray} (h : x ∈ l) (e : x.data.toList = s.data.toList) : hasS l s = true := by
  unfold hasS
  rw [List.any_eq_true]
  exact ⟨x, h, decide_eq_true e⟩

/-- block b is a set of the strings l, at most n of them -/
def Seen (w : World) (b n : Nat) (l : List ByteArray) : Prop :=
  ∃ D : DataW Unit, w.ownsMap Tryz.prog 9 (plainElem Tryz.prog 4) b n D ∧ IsMap D ∧ ∀ s : ByteArray, D.atKey (.string s.data.toList) (.lit (.bool false)) = .lit (.bool (hasS l s))

theorem Seen.made (w : World) : Seen (w.alloc (.map #[] 0)) w.heap.size 0 [] :=
  ⟨.map [], World.ownsMap_made _ _ _ _, isMap_empty, fun s => rfl⟩
theorem Seen.lt {w : World} {b n : Nat} {l : List ByteArray} (h : Seen w b n l) : b < w.heap.size := by
  obtain ⟨D, hD, _⟩ := h
  exact hD.lt
theorem Seen.kept {w w' : World} {b n : Nat} {l : List ByteArray} {row : Option Nat} (h : Seen w b n l) (hg : w.grownBy w' row) (hne : some b ≠ row) : Seen w' b n l := by
  obtain ⟨D, hD, h2⟩ := h
  exact ⟨D, hD.kept hg hne, h2⟩
theorem Seen.below {w w' : World} {b n : Nat} {l : List ByteArray} (h : Seen w b n l) (hb : Below w.heap.size w w') : Seen w' b n l :=
  h.kept (grown_of_below hb none) (by simp)
theorem Seen.alloc {w : World} {b n : Nat} {l : List ByteArray} (h : Seen w b n l) (o : Obj) : Seen (w.alloc o) b n l := h.kept (World.grownBy_alloc w o none) (by simp)

theorem Seen.drewN {w : World} {b n : Nat} {l : List ByteArray} (h : Seen w b n l) (m : Nat) : Seen (w.drewN m) b n l := h

theorem plainElem_bool_inv {P : Program} {e : TypeId} (he : P.underlying e = some .bool) {v : Value} {z : DataW Unit × List MemPlace} (h : plainElem P e v = some z) : ∃ b, v = .bool b ∧ z = (.lit (.bool b), []) := by
  unfold plainElem at h
  rw [he] at h
  cases v <;> simp at h
  exact ⟨_, rfl, h.symm⟩
theorem lit_bool_inj {a b : Bool} (h : (DataW.lit (.bool a) : DataW Unit) = .lit (.bool b)) : a = b := by
  injection h with h
  injection h

/-- m[k] at elements of type bool -/
theorem wpList_lookup_own_bool {P : Program} (w : World) {ops : Array Oper} {rest : List Oper} {o : Oper} {a : Act} {Q : Exit → Act → World → Prop}
    (hg : o.guard = none) (m x : Operand) (t : TypeId) (hop : o.op = Op.lookup t m x false)
    (k e : TypeId) (K : Keyed P k) (ht : P.underlying t = some (.map k e)) (he : P.underlying e = some .bool) (hz : (zeroValue e).run P w = .ok (.bool false) w) (b n : Nat) (D : DataW Unit)
    (hm : a.eval m = .map (some b)) (hown : w.ownsMap P k (plainElem P e) b n D) (key : Value) (kl : Lit) (hx : a.eval x = key) (hkey : keyOf P k key = some kl)
    (hK : ∀ c : Bool, D.atKey kl (.lit (.bool false)) = .lit (.bool c) → wpList P ops Q rest (a.put o.dst (.bool c)) w) :
    wpList P ops Q (o :: rest) a w := by
  refine wpList_plain hg fun K' hK' => ?_
  obtain ⟨v, ps, hrun, hv⟩ := hown.lookup K ht hz (plainElem_bool he false) hkey
  obtain ⟨c, rfl, hc⟩ := plainElem_bool_inv he hv
  simp only [Prod.mk.injEq] at hc
  unfold Oper.wp
  simp [execOp, hop, hm, hx, hrun, Result.andThen]
  exact hK' _ _ (hK c hc.1)

/-- seen[s] -/
theorem wpList_lookup_seen {ops : Array Oper} {rest : List Oper} {o : Oper} {a : Act} {Q : Exit → Act → World → Prop} (w : World) (hg : o.guard = none) (m x : Operand) (hop : o.op = Op.lookup 262 m x false)
    (b n : Nat) (l : List ByteArray) (hm : a.eval m = .map (some b)) (hs : Seen w b n l) (s : ByteArray) (hx : a.eval x = .string s) (hlen : s.size ≤ maxLen) (r : Bool) (hr : hasS l s = r)
    (hK : wpList Tryz.prog ops Q rest (a.put o.dst (.bool r)) w) : wpList Tryz.prog ops Q (o :: rest) a w := by
  obtain ⟨D, hown, _, hat⟩ := hs
  refine wpList_lookup_own_bool w hg m x _ hop 9 4 key_str Tryz.underlying262 Tryz.underlying4 (zero_bool w) b n D hm hown _ _ hx (WideMaps.keyOf_string_mk Tryz.underlying9 hlen) ?_
  intro c hc
  rw [← lit_bool_inj ((hat s).symm.trans hc), hr]
  exact hK

/-- seen[s] = true -/
theorem wpList_update_seen {ops : Array Oper} {rest : List Oper} {o : Oper} {a : Act} {Q : Exit → Act → World → Prop} (w : World) (hg : o.guard = none) (m x v : Operand) (hop : o.op = Op.mapUpdate 262 m x v)
    (b n : Nat) (l : List ByteArray) (hm : a.eval m = .map (some b)) (hs : Seen w b n l) (hn : n < maxLen) (s : ByteArray) (hx : a.eval x = .string s) (hv : a.eval v = .bool true) (hlen : s.size ≤ maxLen)
    (hK : ∀ w', Seen w' b (n + 1) (l ++ [s]) → w.grownBy w' (some b) → wpList Tryz.prog ops Q rest (a.put o.dst undef) w') : wpList Tryz.prog ops Q (o :: rest) a w := by
  obtain ⟨D, hown, hD, hat⟩ := hs
  refine wpList_mapUpdate_own w hg m x v _ hop 9 4 key_str Tryz.underlying262 _ b n D hm hown hn _ _ _ hx hv (WideMaps.keyOf_string_mk Tryz.underlying9 hlen) (.lit (.bool true)) [] (plainElem_bool Tryz.underlying4 true) ?_
  intro w' h1 h2
  refine hK w' ⟨_, h1, hD.put _ _, fun s' => ?_⟩ h2
  rw [hasS_snoc]
  by_cases he : s.data.toList = s'.data.toList
  · rw [he, atKey_put_same hD (by unfold WideAt.IsKeyLit; trivial)]
    simp
  · rw [atKey_put_other (by intro e; injection e with e; exact he e.symm), hat s']
    simp [he]
end Go.Proofs.YtfdpfkdfglombaaGreatDoor
