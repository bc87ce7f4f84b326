/- A map of one's own from who and when to bools. -/
import Derived.Test.YtgdagknjnidmiaaGreatDoorVMap
import Derived.Maps.OwnSet
import Derived.DeepKeys4
set_option linter.unusedVariables false
namespace Go.Proofs.YtgdagknjnidmiaaGreatDoor
open Go.RowKit Go.Maps

theorem laidOutW : laidOutB Tryz.prog = true := by kernel_rfl
theorem law_did : WideMaps.KeyLaw Tryz.prog 93 := deep_law_laid laidOutW (m := 3) (by omega) (of_decide_eq_true (by kernel_rfl)) (by kernel_rfl) (by kernel_rfl)
theorem key_did : Keyed Tryz.prog 93 := Keyed.of_law law_did
/-- who and when -/
def dV (s : ByteArray) (p : Nat) : Value := .agg #[.string s, .int .i64 (p : Int)]
theorem keyType_did : (Tryz.prog).keyType 93 = true := by kernel_rfl
theorem cells_did : (Tryz.prog).cellsOf 93 = 2 := by kernel_rfl
theorem cells_strW : (Tryz.prog).cellsOf 9 = 1 := by kernel_rfl
theorem cells_intW : (Tryz.prog).cellsOf 3 = 1 := by kernel_rfl
theorem dV_key (s : ByteArray) (p : Nat) (hs : s.size ≤ maxLen) (hp : p ≤ 1000000000000) : ∃ kl, keyOf Tryz.prog 93 (dV s p) = some kl := by
  have hw : (Lit.int .i64 (p : Int)).wf = true := by
    unfold Lit.wf
    rw [Bool.and_eq_true, decide_eq_true_eq, decide_eq_true_eq]
    constructor
    · show (-9223372036854775808 : Int) ≤ _; omega
    · show _ ≤ (9223372036854775807 : Int); omega
  obtain ⟨n, hn⟩ : ∃ n, (Tryz.prog).types.size + 1 = n + 2 := ⟨(Tryz.prog).types.size - 1, by have : (Tryz.prog).types.size ≠ 0 := of_decide_eq_true (by kernel_rfl); omega⟩
  unfold keyOf dV
  rw [hn]
  simp [Tryz.underlying93, Tryz.underlying9, Tryz.underlying3, keyType_did, Value.formed, cells_did, cells_strW, cells_intW, Value.cells, Program.keyLits, hs, hw]
theorem dV_inj {s t : ByteArray} {p q : Nat} (e : dV t q = dV s p) : t = s ∧ q = p := by
  unfold dV at e
  injection e with e
  have e' := congrArg Array.toList e
  simp only [List.cons.injEq] at e'
  obtain ⟨e1, e2, -⟩ := e'
  injection e1 with e1
  injection e2 with e2 e3
  exact ⟨e1, Int.ofNat.inj e3⟩
/-- block b is such a map; f: who did something when -/
def VS (w : World) (b n : Nat) (f : ByteArray → Nat → Bool) : Prop :=
  ∃ D : DataW Value, w.ownsMap Tryz.prog 93 heldElem b n D ∧ IsMap D ∧ ∀ s p kl, keyOf Tryz.prog 93 (dV s p) = some kl → D.atKey kl (.held (.bool false)) = .held (.bool (f s p))
section
variable {w w' : World} {b n : Nat} {f : ByteArray → Nat → Bool}
theorem VS.made (w : World) : VS (w.alloc (.map #[] 0)) w.heap.size 0 (fun _ _ => false) :=
  ⟨.map [], World.ownsMap_made _ _ _ _, isMap_empty, fun s p kl _ => rfl⟩
theorem VS.lt (h : VS w b n f) : b < w.heap.size := by
  obtain ⟨D, hD, _⟩ := h
  exact hD.lt
theorem VS.kept {row : Option Nat} (h : VS w b n f) (hg : w.grownBy w' row) (hne : some b ≠ row) : VS w' b n f := by
  obtain ⟨D, hD, h2⟩ := h
  exact ⟨D, hD.kept hg hne, h2⟩
theorem VS.alloc (h : VS w b n f) (o : Obj) : VS (w.alloc o) b n f := h.kept (World.grownBy_alloc w o none) (by simp)
theorem VS.drewN (h : VS w b n f) (m : Nat) : VS (w.drewN m) b n f := h
theorem VS.look {mt et : TypeId} (h : VS w b n f) (hu : (Tryz.prog).underlying mt = some (.map 93 et)) (hz : (zeroValue et).run Tryz.prog w = .ok (.bool false) w) (s : ByteArray) (p : Nat) (hs : s.size ≤ maxLen) (hp : p ≤ 1000000000000) :
    (Instr.lookup mt (.map (some b)) (dV s p) false).run Tryz.prog w = .ok (.bool (f s p)) w := by
  obtain ⟨D, hown, hD, hat⟩ := h
  obtain ⟨kl, hk⟩ := dV_key s p hs hp
  obtain ⟨v, ps, hrun, hv⟩ := hown.lookup key_did hu hz (zd := .held (.bool false)) (zp := []) rfl hk
  have h5 : DataW.held v = D.atKey kl (.held (.bool false)) := congrArg Prod.fst (Option.some.inj hv)
  have h6 : v = .bool (f s p) := DataW.held.inj (h5.trans (hat s p kl hk))
  subst h6
  exact hrun
theorem wpList_update_vs {ops : Array Oper} {rest : List Oper} {o : Oper} {a : Act} {Q : Exit → Act → World → Prop} (w : World) (hg : o.guard = none) (m x v : Operand) (mt et : TypeId) (hop : o.op = Op.mapUpdate mt m x v) (hu : (Tryz.prog).underlying mt = some (.map 93 et))
    (b n : Nat) (f : ByteArray → Nat → Bool) (hm : a.eval m = .map (some b)) (h : VS w b n f) (hn : n < maxLen) (s : ByteArray) (p : Nat) (hx : a.eval x = dV s p) (hv : a.eval v = .bool true) (hs : s.size ≤ maxLen) (hp : p ≤ 1000000000000)
    (hK : ∀ w', VS w' b (n + 1) (fun t q => f t q || (sameS s t && decide (p = q))) → w.grownBy w' (some b) → wpList Tryz.prog ops Q rest (a.put o.dst undef) w') : wpList Tryz.prog ops Q (o :: rest) a w := by
  obtain ⟨D, hown, hD, hat⟩ := h
  obtain ⟨kl, hk⟩ := dV_key s p hs hp
  refine wpList_mapUpdate_own w hg m x v _ hop 93 et key_did hu _ b n D hm hown hn _ _ _ hx hv hk (.held (.bool true)) [] rfl ?_
  intro w' h1 h2
  refine hK w' ⟨_, h1, hD.put _ _, fun t q kl' hk' => ?_⟩ h2
  by_cases he : kl' = kl
  · subst he
    have e := key_did.inj hk' hk
    obtain ⟨e1, rfl⟩ := dV_inj e
    subst e1
    rw [atKey_put_same hD (key_did.key hk)]
    show DataW.held (Value.bool true) = .held (.bool (f t q || (sameS t t && decide (q = q))))
    rw [show sameS t t = true from sameS_eq.2 rfl, decide_eq_true rfl, Bool.and_true, Bool.or_true]
  · rw [atKey_put_other he, hat t q kl' hk']
    have : (sameS s t && decide (p = q)) = false := by
      cases hc : sameS s t
      · rfl
      · have := sameS_eq.1 hc
        subst this
        have hpq : ¬ p = q := fun e => by subst e; rw [hk] at hk'; exact he (Option.some.inj hk').symm
        rw [decide_eq_false hpq]; rfl
    show DataW.held (Value.bool (f t q)) = .held (.bool (f t q || (sameS s t && decide (p = q))))
    rw [this, Bool.or_false]
end
end Go.Proofs.YtgdagknjnidmiaaGreatDoor
