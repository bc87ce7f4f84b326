/- The keys of a map by strings, sorted; lists that are told by their sorted keys. -/
import Derived.Test.YtgdagknjnidmiaaGreatDoorVMap
import Derived.Test.YtgdagknjnidmiaaGreatDoorCeSpec
import Derived.Test.YtgdagknjnidmiaaGreatDoorCrd
import Derived.Sort.KeysCollected
set_option linter.unusedVariables false
namespace Go.Proofs.YtgdagknjnidmiaaGreatDoor
open Go.RowKit Go.Maps Go.Sort

theorem lexU_lt : ∀ x y : List UInt8, lexC cmpU x y < 0 ↔ x < y
  | [], [] => by simp [lexC]
  | [], b :: y => by simp [lexC]
  | a :: x, [] => by simp [lexC]
  | a :: x, b :: y => by
    have ih := lexU_lt x y
    rw [List.cons_lt_cons_iff]
    simp only [lexC]
    by_cases h1 : a < b
    · have hc : cmpU a b = -1 := by unfold cmpU; rw [if_pos h1]
      rw [hc]
      simp [h1]
    · by_cases h2 : a = b
      · subst h2
        rw [if_pos ((cmpU_tot.eq a a).2 rfl), ih]
        simp
      · have hc : cmpU a b = 1 := by unfold cmpU; rw [if_neg h1, if_neg h2]
        rw [hc]
        simp [h1, h2]
theorem lexU_le (x y : List UInt8) : lexC cmpU x y ≤ 0 ↔ x ≤ y := by
  have h := (lexC_tot cmpU_tot).anti y x
  rw [lexU_lt] at h
  rw [← List.not_lt, h]
  omega
theorem cmpB_le (a b : ByteArray) : cmpB a b ≤ 0 ↔ a.data.toList ≤ b.data.toList := by
  unfold cmpB
  rw [Lib.toList_data, Lib.toList_data]
  exact lexU_le _ _
/-- strings, sorted -/
def ordK (ks : List ByteArray) : List ByteArray := ((ks.map fun s => s.data.toList).mergeSort leB).map fun x => ⟨⟨x⟩⟩
theorem ordK_perm (ks : List ByteArray) : (ordK ks).Perm ks := by
  unfold ordK
  have h := (List.mergeSort_perm (ks.map fun s => s.data.toList) leB).map (fun x : List UInt8 => (⟨⟨x⟩⟩ : ByteArray))
  rw [List.map_map] at h
  have e : ((fun x : List UInt8 => (⟨⟨x⟩⟩ : ByteArray)) ∘ fun s : ByteArray => s.data.toList) = id := by
    funext s
    cases s with
    | mk d => cases d; rfl
  rw [e, List.map_id] at h
  exact h
theorem ordK_sorted (ks : List ByteArray) : (ordK ks).Pairwise fun a b => cmpB a b ≤ 0 := by
  unfold ordK
  rw [List.pairwise_map]
  have tr : ∀ a b c : List UInt8, leB a b = true → leB b c = true → leB a c = true := fun a b c h1 h2 => by simp only [leB, decide_eq_true_eq] at *; exact List.le_trans h1 h2
  have tt9 : ∀ a b : List UInt8, (leB a b || leB b a) = true := fun a b => by simp only [leB, Bool.or_eq_true, decide_eq_true_eq]; exact List.le_total a b
  refine (List.pairwise_mergeSort tr tt9 _).imp fun {a b} h => ?_
  rw [cmpB_le]
  simpa [leB] using h
theorem ordK_row (ks : List ByteArray) {ss : List (List UInt8)} (h : ss.Perm (ks.map fun s => s.data.toList)) : (ss.mergeSort leB).map encStr = (ordK ks).map Value.string := by
  rw [mergeSort_of_perm h]
  unfold ordK
  rw [List.map_map]
  rfl
/-- a map's keys -/
theorem vm_perm {w : World} {b n : Nat} {D : DataW Value} {ks : List ByteArray} (hown : w.ownsMap Tryz.prog 9 heldElem b n D) (hat : ∀ s : ByteArray, Maps.has D (.string s.data.toList) = hasS ks s) (hnd : ks.Nodup) : (ks.map fun s => s.data.toList).Perm (strKeys D) := by
  refine Collected.perm (left := fun _ => false) ⟨?_, fun x => ?_⟩ hown key_str Tryz.underlying9 fun _ => rfl
  · rw [List.Nodup, List.pairwise_map]
    exact hnd.imp fun {a b} h e => h (sameS_eq.1 (decide_eq_true e))
  · have h := hat ⟨⟨x⟩⟩
    rw [show ((⟨⟨x⟩⟩ : ByteArray).data.toList) = x from rfl] at h
    rw [h]
    simp only [and_true]
    rw [List.mem_map, hasS_mem]
    constructor
    · rintro ⟨s, hs, rfl⟩
      exact hs
    · intro hs
      exact ⟨_, hs, rfl⟩
theorem vm_size {w : World} {b n : Nat} {D : DataW Value} {ks : List ByteArray} (hown : w.ownsMap Tryz.prog 9 heldElem b n D) (hat : ∀ s : ByteArray, Maps.has D (.string s.data.toList) = hasS ks s) (hnd : ks.Nodup) : Maps.size D = ks.length := by
  have h := (vm_perm hown hat hnd).length_eq
  obtain ⟨es, rfl, _⟩ := hown.keysOf
  rw [List.length_map] at h
  rw [h]
  show es.length = (es.map fun p => strOf p.1).length
  rw [List.length_map]
/-- a letter's credit -/
structure Cdt where
  letter : ByteArray
  cents : Nat
  gains : Nat
def Cdt.cells (x : Cdt) : List Value := [.string x.letter, .int .i64 (x.gains : Int), .int .i64 (x.cents : Int)]
theorem Cdt.len (x : Cdt) : x.cells.length = 3 := rfl
instance : Inhabited Cdt := ⟨⟨⟨#[]⟩, 0, 0⟩⟩
def Crd.at_ (c : Crd) (s : ByteArray) : Cdt := ⟨s, c.ce s, c.ga s⟩
/-- the answer: the letters in order -/
def crL (c : Crd) : List Cdt := (ordK c.keys).map c.at_
/-- one kept list, sorted, is another's, told in order -/
theorem crL_same {o r : Crd} (h : CrJ o r) (m : List Cdt) (hm : m.Perm ((r.keys.filter fun s => decide (0 < r.ga s)).map r.at_)) : isort cmpB Cdt.letter m = crL o := by
  obtain ⟨h1, h2⟩ := isort_law cmpB_tot Cdt.letter m
  have e1 : r.at_ = o.at_ := by
    funext s
    unfold Crd.at_
    rw [h.ce, h.ga]
  have hp : ((r.keys.filter fun s => decide (0 < r.ga s))).Perm o.keys := by
    refine (List.perm_ext_iff_of_nodup (h.nr.filter _) h.no).2 fun s => ?_
    rw [List.mem_filter, decide_eq_true_eq, h.ko s, h.ga]
    exact ⟨fun e => e.2, fun e => ⟨h.kr s ((h.ko s).2 (by rw [h.ga]; exact e)), e⟩⟩
  have hq : (isort cmpB Cdt.letter m).Perm (crL o) := by
    refine h1.trans (hm.trans ?_)
    rw [e1]
    exact (hp.trans (ordK_perm o.keys).symm).map _
  have h3 : (crL o).Pairwise (fun x y => cmpB x.letter y.letter ≤ 0) := by
    unfold crL
    rw [List.pairwise_map]
    exact ordK_sorted o.keys
  refine List.Perm.eq_of_pairwise (le := fun x y => cmpB x.letter y.letter ≤ 0) (fun a b ha hb h4 h5 => ?_) h2 h3 hq
  have h6 := cmpB_tot.anti b.letter a.letter
  have h7 : cmpB a.letter b.letter = 0 := by
    have := cmpB_tot.anti a.letter b.letter
    omega
  have h8 := (cmpB_tot.eq _ _).1 h7
  have ha' := hq.mem_iff.1 ha
  unfold crL at ha' hb
  obtain ⟨s, _, rfl⟩ := List.mem_map.1 ha'
  obtain ⟨t, _, rfl⟩ := List.mem_map.1 hb
  have : s = t := h8
  rw [this]
end Go.Proofs.YtgdagknjnidmiaaGreatDoor
