/- What measure.Steps keeps in its maps and rows, as plain lists. -/
import Derived.Test.YtgdagknjnidmiaaGreatDoorActP
import Derived.Test.YtgdagknjnidmiaaGreatDoorRowG
import Derived.Laws.OwnMore
set_option linter.unusedVariables false
namespace Go.Proofs.YtgdagknjnidmiaaGreatDoor
open Go.RowKit Go.Maps

theorem RowG.of_cells {w : World} {g N : Nat} {cs : Array Value} {t : TypeId} {f : Nat → Value} (h : w.heap[g]? = some (.cells cs t (0, 0))) (hN : ∀ j, j < N → cs[j]? = some (f j)) : RowG w g N f := by
  refine ⟨(Array.getElem?_eq_some_iff.1 h).1, fun j hj => ?_, fun j hj => ?_⟩
  · simp only [World.cell?, h]
    rw [hN j hj]
    rfl
  · simp [World.frozen?, h]
/-- make of n elements of C cells, all alike -/
theorem wpList_make_rowK {P : Program} (w : World) {ops : Array Oper} {rest : List Oper} {o : Oper} {a : Act} {Q : Exit → Act → World → Prop}
    (hg : o.guard = none) (l c : Operand) (t : TypeId) (hop : o.op = Op.makeSlice t l c)
    (e : TypeId) (i : TypeInfo) (z : Value) (C : Nat) (b : Value) (h1 : P.underlying t = some (.slice e)) (h2 : P.info? e = some i) (h3 : i.zero = some z) (h4 : i.size = C) (hzc : ∀ j, z.cells[j % z.cells.size]! = b)
    (n : Nat) (hl : a.eval l = .int .i64 (n : Int)) (hc : a.eval c = .int .i64 (n : Int)) (b2 : i.bytes * n ≤ 281474976710656) (b3 : n ≤ maxLen)
    (hK : ∀ w', RowG w' w.heap.size (n * C) (fun _ => b) → w.grownBy w' none → w'.heap.size = w.heap.size + 1 → wpList P ops Q rest (a.put o.dst (.slice (some ⟨w.heap.size, 0, none⟩) n n)) w') :
    wpList P ops Q (o :: rest) a w := by
  refine wpList_plain hg fun K hK' => ?_
  obtain ⟨w', hrun, r1, r2⟩ := run_make_full (P := P) w w.heap.size t e i z C h1 h2 h3 h4 .i64 .i64 n b2 b3 (Nat.le_refl _)
  have hrun2 := run_make (P := P) w t e i z h1 h2 h3 .i64 .i64 n n (by omega) (Int.le_refl _) (by have h : ((i.bytes * n : Nat) : Int) ≤ 281474976710656 := by omega
                                                                                                  rwa [Int.natCast_mul] at h) (by unfold maxLen at b3; omega)
  rw [hrun] at hrun2
  have hw : w' = w.alloc (.cells (madeCells z.cells ((n : Int).toNat * i.size)) e) := by injection hrun2
  unfold Oper.wp
  simp [execOp, hop, hl, hc, hrun, Result.andThen]
  refine hK' _ _ (hK w' ?_ r2 ?_)
  · rw [hw, h4]
    refine RowG.of_cells (heap_alloc_new _ _) (fun j hj => ?_)
    simp only [madeCells, Int.toNat_natCast]
    rw [Array.getElem?_map, Array.getElem?_range, if_pos hj]
    simp [hzc]
  · rw [hw]
    simp
/-- the places by id, of the first k -/
def gI (l : List Snt) (k : Nat) : ByteArray → Value := fun s => .int .i64 (if hasS (idsOf l k) s = true then idxG (sIds l) s else 0)
theorem idsOf_all (l : List Snt) : idsOf l l.length = sIds l := by unfold idsOf sIds; rw [List.take_length]
theorem fresh_id {l : List Snt} (h : (sIds l).Nodup) {k : Nat} (hk : k < l.length) : hasS (idsOf l k) l[k].id = false := by
  cases hc : hasS (idsOf l k) l[k].id
  · rfl
  · exfalso
    have hm := hasS_mem.1 hc
    unfold idsOf at hm
    rw [List.map_take] at hm
    obtain ⟨j, hj, e⟩ := List.getElem_of_mem hm
    rw [List.length_take] at hj
    rw [List.getElem_take] at e
    have hj2 : j < (sIds l).length := by have : (sIds l).length = (l.map Snt.id).length := rfl; omega
    have hk2 : k < (sIds l).length := by unfold sIds; rw [List.length_map]; exact hk
    have e2 : (sIds l)[j] = (sIds l)[k] := by
      rw [show (sIds l)[k] = l[k].id from List.getElem_map ..]
      exact e
    have := (List.getElem_inj h).1 e2
    omega
theorem gI_step {l : List Snt} (h : (sIds l).Nodup) {k : Nat} (hk : k < l.length) : addK (idsOf l k) l[k].id = idsOf l (k + 1) ∧ putV (gI l k) l[k].id (.int .i64 (k : Int)) = gI l (k + 1) := by
  have hf := fresh_id h hk
  have h1 : addK (idsOf l k) l[k].id = idsOf l (k + 1) := by
    unfold addK
    rw [hf, if_neg (by simp), idsOf_succ l k hk]
  refine ⟨h1, ?_⟩
  funext s
  unfold putV gI
  have h2 : hasS (idsOf l (k + 1)) s = (hasS (idsOf l k) s || sameS l[k].id s) := by rw [← h1, hasS_addK]
  by_cases e : sameS l[k].id s = true
  · have es := sameS_eq.1 e
    subst es
    have hk2 : k < (sIds l).length := by unfold sIds; rw [List.length_map]; exact hk
    have h3 := idx_at h hk2 l[k].id
    rw [show (sIds l)[k] = l[k].id from List.getElem_map ..] at h3
    rw [show eqS l[k].id l[k].id = true from eqS_eq.2 rfl] at h3
    have h4 : idxG (sIds l) l[k].id = (k : Int) := by simpa using h3.symm
    rw [if_pos e, h2, e, Bool.or_true, if_pos rfl, h4]
  · have e' : sameS l[k].id s = false := by simpa using e
    rw [if_neg e, h2, e', Bool.or_false]
/-- what a look-up gives when all are there -/
theorem gI_all (l : List Snt) (s : ByteArray) : (hasS (sIds l) s = true → gI l l.length s = .int .i64 (idxG (sIds l) s)) ∧ hasS (sIds l) s = decide (0 ≤ idxG (sIds l) s) := by
  refine ⟨fun h => ?_, hasS_idx _ _⟩
  unfold gI
  rw [idsOf_all, if_pos h]
theorem eqS_comm (a b : ByteArray) : eqS a b = eqS b a := by
  unfold eqS
  rw [Bool.eq_iff_iff, decide_eq_true_eq, decide_eq_true_eq]
  exact ⟨Eq.symm, Eq.symm⟩
/-- who did what, cell by cell -/
def dF (l : List Snt) (acts : List Ac) (span : Int) (c : Nat) : Bool := didB acts span (l.getD (c / 5) default) ((c % 5 : Nat) : Int)
theorem dF_none (l : List Snt) (span : Int) (c : Nat) : dF l [] span c = false := rfl
theorem dF_at {l : List Snt} {i : Nat} (hi : i < l.length) (acts : List Ac) (span : Int) (j : Nat) (hj : j < 5) : dF l acts span (i * 5 + j) = didB acts span l[i] (j : Int) := by
  unfold dF
  rw [show (i * 5 + j) / 5 = i by omega, show (i * 5 + j) % 5 = j by omega]
  simp [List.getD_eq_getElem?_getD, List.getElem?_eq_getElem hi]
theorem dF_step {l : List Snt} (h : (sIds l).Nodup) {acts : List Ac} {span : Int} {k i kd : Nat} (hk : k < acts.length) (hi : i < l.length) (hx : idxG (sIds l) acts[k].sent = (i : Int)) (hkd : acts[k].kind = (kd : Int)) (h5 : kd < 5) (c : Nat) (hc : c < l.length * 5) :
    dF l (acts.take (k + 1)) span c = if acts[k].at_ - l[i].at_ ≤ span ∧ c = i * 5 + kd then true else dF l (acts.take k) span c := by
  unfold dF
  have hj : c / 5 < l.length := by omega
  rw [didB_succ _ _ _ _ _ hk]
  have e1 : l.getD (c / 5) default = l[c / 5] := by simp [List.getD_eq_getElem?_getD, List.getElem?_eq_getElem hj]
  rw [e1]
  have hj2 : c / 5 < (sIds l).length := by unfold sIds; rw [List.length_map]; exact hj
  have h3 := idx_at h hj2 acts[k].sent
  rw [show (sIds l)[c / 5] = l[c / 5].id from List.getElem_map ..] at h3
  rw [eqS_comm acts[k].sent, h3, hx, hkd]
  by_cases hcc : c = i * 5 + kd
  · have a1 : c / 5 = i := by omega
    have a2 : c % 5 = kd := by omega
    by_cases hs : acts[k].at_ - l[i].at_ ≤ span
    · rw [if_pos ⟨hs, hcc⟩]
      have : acts[k].at_ ≤ l[c / 5].at_ + span := by simp only [a1]; omega
      simp [a1, a2] at this ⊢
      right
      exact this
    · rw [if_neg (fun h => hs h.1)]
      have : ¬ acts[k].at_ ≤ l[c / 5].at_ + span := by simp only [a1]; omega
      simp [this]
  · rw [if_neg (fun h => hcc h.2)]
    have : ¬ (((kd : Int) = ((c % 5 : Nat) : Int)) ∧ ((i : Int) = ((c / 5 : Nat) : Int))) := by omega
    by_cases b1 : (kd : Int) = ((c % 5 : Nat) : Int)
    · have b2 : ¬ (i : Int) = ((c / 5 : Nat) : Int) := fun e => this ⟨b1, e⟩
      rw [decide_eq_false b2]
      simp
    · rw [decide_eq_false b1]
      simp
end Go.Proofs.YtgdagknjnidmiaaGreatDoor
