/- Contracts of measure.Weights and of the reference WeightsOf. -/
import Derived.Test.YtgdagknjnidmiaaGreatDoorM2
import Derived.Test.YtgdagknjnidmiaaGreatDoorM1
import Derived.Maps.OwnSet
import Derived.Lib.Strings
import Derived.Sort.LotA
import Derived.Sort.KeysCollected
set_option linter.unusedVariables false
namespace Go.Proofs.YtgdagknjnidmiaaGreatDoor
open Go.RowKit

/-- what is wrong with the age at a place -/
def badA (span : Int) (zs : List Int) (i : Nat) : Int := if zs.getD i 0 < 1 ∨ span < zs.getD i 0 then 1 else if 0 < i ∧ zs.getD (i - 1) 0 < zs.getD i 0 then 7 else 0
def scanE (span : Int) (zs : List Int) : Int := orF ((List.range zs.length).map (badA span zs))
def wwE (how span : Int) (zs : List Int) : Int := if how < 1 ∨ 6 < how then 4 else if span < 1 ∨ 4321440 < span then 1 else if 12 < zs.length then 2 else scanE span zs
def wgtL (how span : Int) (zs : List Int) (k : Nat) : List Int := (List.range k).map fun i => wgt how (18 * (zs.getD i 0).toNat / span.toNat) i zs.length
def wwL (how span : Int) (zs : List Int) : List Int := if wwE how span zs = 0 then wgtL how span zs zs.length else []

theorem orF_first (l : List Int) (k : Nat) (hk : k < l.length) (h0 : ∀ i (hi : i < k), l[i] = 0) (h1 : l[k] ≠ 0) : orF l = l[k] := by
  induction l generalizing k with
  | nil => simp at hk
  | cons x l ih =>
    cases k with
    | zero => simp only [orF]; rw [if_neg (show ¬ x = 0 from h1)]; rfl
    | succ k =>
      have hx : x = 0 := h0 0 (by omega)
      simp only [orF]
      rw [if_pos hx]
      exact ih k (by simpa using hk) (fun i hi => h0 (i + 1) (by omega)) h1
theorem orF_none (l : List Int) (h0 : ∀ i (hi : i < l.length), l[i] = 0) : orF l = 0 := by
  induction l with
  | nil => rfl
  | cons x l ih =>
    have hx : x = 0 := h0 0 (by simp)
    simp only [orF]
    rw [if_pos hx]
    exact ih (fun i hi => h0 (i + 1) (by simpa using hi))
theorem scan_bad (span : Int) (zs : List Int) (k : Nat) (hk : k < zs.length) (h0 : ∀ i, i < k → badA span zs i = 0) (h1 : badA span zs k ≠ 0) : scanE span zs = badA span zs k := by
  unfold scanE
  rw [orF_first _ k (by simpa using hk) (fun i hi => by simpa using h0 i hi) (by simpa using h1)]
  simp
theorem scan_good (span : Int) (zs : List Int) (h0 : ∀ i, i < zs.length → badA span zs i = 0) : scanE span zs = 0 :=
  orF_none _ (fun i hi => by simpa using h0 i (by simpa using hi))
theorem badA_good {span : Int} {zs : List Int} {i : Nat} (h : badA span zs i = 0) : 1 ≤ zs.getD i 0 ∧ zs.getD i 0 ≤ span := by
  unfold badA at h
  by_cases b : zs.getD i 0 < 1 ∨ span < zs.getD i 0
  · rw [if_pos b] at h; cases h
  · omega
theorem wgtL_succ (how span : Int) (zs : List Int) (k : Nat) : wgtL how span zs (k + 1) = wgtL how span zs k ++ [wgt how (18 * (zs.getD k 0).toNat / span.toNat) k zs.length] := by
  simp [wgtL, List.range_succ]
theorem wgtL_len (how span : Int) (zs : List Int) (k : Nat) : (wgtL how span zs k).length = k := by simp [wgtL]
theorem getD_get (zs : List Int) (k : Nat) (hk : k < zs.length) : zs.getD k 0 = zs[k] := by simp [hk]

def WeightsOut (w : World) (how span : Int) (zs : List Int) (e : Ending) (w' : World) : Prop :=
  ∃ v, e = .returned (.tuple #[v, .int .i64 (wwE how span zs)]) ∧ SliceIs w' v (wwL how span zs) ∧ Below w.heap.size w w'
theorem weightsOut_nil {w w' : World} {how span : Int} {zs : List Int} {k : Int} (h : wwE how span zs = k) (hk : k ≠ 0) (hb : Below w.heap.size w w') : WeightsOut w how span zs (.returned (.tuple #[.slice none 0 0, .int .i64 k])) w' := by
  refine ⟨_, by rw [h], ?_, hb⟩
  unfold wwL
  rw [if_neg (by rw [h]; exact hk)]
  exact SliceIs.nil w'
theorem weightsOut_ok {w w' : World} {how span : Int} {zs : List Int} {v : Value} (h : wwE how span zs = 0) (hI : SliceIs w' v (wgtL how span zs zs.length)) (hb : Below w.heap.size w w') :
    WeightsOut w how span zs (.returned (.tuple #[v, .int .i64 0])) w' := by
  refine ⟨v, by rw [h], ?_, hb⟩
  unfold wwL
  rw [if_pos h]
  exact hI
theorem slice_of_row {w : World} {b0 : Nat} {v : Value} {k : Nat} {l : List Int} (h : w.ownsRow b0 3 1 v k (l.map (Value.int .i64))) (hk : l.length = k) : SliceIs w v l := by
  subst hk
  rcases h.2 with ⟨rfl, h0⟩ | ⟨g, cap, cur, rfl, _⟩
  · have : l = [] := List.eq_nil_of_length_eq_zero h0
    subst this
    exact SliceIs.nil w
  · exact ⟨_, cap, rfl, IntsAt.of_own h⟩

theorem infoW : (Tryz.prog.info? 3).map (fun i => (i.zero, i.size, i.bytes)) = some (some (.int .i64 0), 1, 8) := by kernel_rfl

theorem checkWays_any (how span : Int) (w : World) :
    Calls Tryz.prog 49 #[.int .i64 how, .int .i64 span] w fun e w' => e = .returned (.int .i64 (if how < 1 ∨ 6 < how then 4 else if span < 1 ∨ 4321440 < span then 1 else 0)) ∧ w = w' := by
  by_cases b1 : how < 1 ∨ 6 < how
  · rw [if_pos b1]
    go_enter Tryz.func49, Tryz.ntmps49
    go_wp2_with fail
    with_reducible refine (within_no _ _ _ _ b1).mono ?_
    rintro e w' ⟨rfl, rfl⟩
    go_wp2
    go_ret
    exact ⟨rfl, rfl⟩
  · rw [if_neg b1]
    by_cases b2 : span < 1 ∨ 4321440 < span
    · rw [if_pos b2]
      go_enter Tryz.func49, Tryz.ntmps49
      go_wp2_with fail
      with_reducible refine (within_yes _ _ _ _ (by omega) (by omega)).mono ?_
      rintro e w' ⟨rfl, rfl⟩
      go_wp2_with fail
      with_reducible refine (within_no _ _ _ _ b2).mono ?_
      rintro e w' ⟨rfl, rfl⟩
      go_wp2
      go_ret
      exact ⟨rfl, rfl⟩
    · rw [if_neg b2]
      go_enter Tryz.func49, Tryz.ntmps49
      go_wp2_with fail
      with_reducible refine (within_yes _ _ _ _ (by omega) (by omega)).mono ?_
      rintro e w' ⟨rfl, rfl⟩
      go_wp2_with fail
      with_reducible refine (within_yes _ _ _ _ (by omega) (by omega)).mono ?_
      rintro e w' ⟨rfl, rfl⟩
      go_wp2
      go_ret
      exact ⟨rfl, rfl⟩

set_option maxRecDepth 100000 in
set_option maxHeartbeats 2000000 in
theorem weights_any (how span : Int) (a : Option Addr) (zs : List Int) (n cp : Nat) (w : World) (h1 : 1 ≤ how) (h2 : how ≤ 6) (hs1 : 1 ≤ span) (hs2 : span ≤ 4321440) (hn : zs.length = n) (hn1 : n ≤ 1000) (hI : IntsAt w a zs) (hg : ∀ i, i < n → badA span zs i = 0) :
    Calls Tryz.prog 75 #[.int .i64 how, .int .i64 span, .slice a n cp] w fun e w' => ∃ v, e = .returned v ∧ SliceIs w' v (wgtL how span zs n) ∧ Below w.heap.size w w' := by
  obtain ⟨i0, hi, hz0, hz1, hz2⟩ := info_parts infoW
  have HN := Lib.hid hn
  have HI := Lib.hid hI
  have HG := Lib.hid hg
  obtain ⟨sp, rfl⟩ := Int.eq_ofNat_of_zero_le (show 0 ≤ span by omega)
  clear hn hI hg
  go_enter Tryz.func75, Tryz.ntmps75
  go_wp2_with fail
  go_loopw [7, 8, 9, 12] (fun v _ _ i wr => ∃ k : Nat, k ≤ n ∧ i = .int .i64 k ∧ wr.ownsRow w.heap.size 3 1 v k ((wgtL how sp zs k).map (Value.int .i64)) ∧ Below w.heap.size w wr) (fun _ _ _ i _ => n - (intOf i).toNat)
  case atStart => exact ⟨0, Nat.zero_le _, rfl, World.ownsRow_nil _ _ _ _, Below.refl _ _⟩
  case round =>
    obtain ⟨k, hk, rfl, hrow, hB⟩ := hrel
    have hsz := hB.size
    by_cases hlt : k < n
    · have hkz : k < zs.length := by have := HN.out; omega
      obtain ⟨p, off, rfl, hp, hcell⟩ := HI.out.at_ hkz
      have hcell' := (hB.cell (p := ⟨p, off + k, none⟩) hp).trans hcell
      have hz := badA_good (HG.out k hlt)
      rw [getD_get zs k hkz] at hz
      have HF := Lib.hid (wgtL_succ how sp zs k)
      rw [getD_get zs k hkz, HN.out] at HF
      have HB := Lib.hid hB
      have own1 := hrow
      clear hrow hB hcell
      generalize zs[k] = z at *
      obtain ⟨ag, rfl⟩ := Int.eq_ofNat_of_zero_le (show 0 ≤ z by omega)
      simp only [Int.toNat_natCast] at HF
      go_wp2_with fail
      with_reducible refine (weight_any how sp ag k n _ h1 h2 (by omega) (by omega) (by omega) hlt hn1).mono ?_
      rintro e w' ⟨rfl, rfl⟩
      generalize wgt how (18 * ag / sp) k n = x at *
      go_wp2_with (at_builtin; refine wpList_append_own _ rfl _ _ 22 rfl w.heap.size 3 i0 (.int .i64 0) 1 8 Tryz.underlying22 hi hz0 hz1 hz2 rfl (by decide) _ _ _ rfl (own1.alloc _) ⟨wr.heap.size, 0, none⟩ 1 1 [.int .i64 x] rfl rfl ?c1 ?c2 ?c3 ?c4 ?c5 ?_)
      case c1 => exact cell_one_new _ _ _
      case c2 => simp [Value.oneCell']
      case c3 => unfold maxLen; omega
      case c4 => omega
      case c5 => simp; omega
      intro v2 w2 own2 hgrow2 hne2
      have HO2 := Lib.hid (show w2.ownsRow w.heap.size 3 1 v2 (k + 1) ((wgtL how sp zs (k + 1)).map (Value.int .i64)) by rw [HF.out]; simpa using own2)
      have HB2 := Lib.hid ((HB.out.alloc (by omega) _).grown hgrow2 (by simp; omega) (fun q hq => (own1.lt q hq).1))
      clear own2 hgrow2 hne2 own1 HB
      go_wp2
      go_roundw
      case rel => exact ⟨k + 1, by omega, by go_num, HO2.out, HB2.out⟩
      case measure => simp [intOf]; omega
    · obtain rfl : k = n := by omega
      have HF := Lib.hid (slice_of_row hrow (wgtL_len _ _ _ _))
      have HB := Lib.hid hB
      clear hrow hB
      go_wp2
      go_ret
      exact ⟨_, rfl, HF.out, HB.out⟩

end Go.Proofs.YtgdagknjnidmiaaGreatDoor
/- A weight of nought gets nothing. -/
set_option linter.unusedVariables false
namespace Go.Proofs.YtgdagknjnidmiaaGreatDoor.Deal

theorem perm_sum {l m : List Nat} (h : l.Perm m) : l.sum = m.sum := by
  induction h with
  | nil => rfl
  | cons x _ ih => simp [ih]
  | swap x y l => simp only [List.sum_cons]; omega
  | trans _ _ h1 h2 => exact h1.trans h2
theorem sum_zeros (l : List Nat) (h : ∀ x ∈ l, x = 0) : l.sum = 0 := by
  induction l with
  | nil => rfl
  | cons x l ih =>
    rw [List.sum_cons, h x (by simp), ih fun y hy => h y (by simp [hy])]
theorem sum_bound (S : Nat) (l : List Nat) (h : ∀ x ∈ l, x ≤ S) : l.sum ≤ l.length * S := by
  induction l with
  | nil => simp
  | cons x l ih =>
    have h1 := h x (by simp)
    have h2 := ih fun y hy => h y (by simp [hy])
    rw [List.sum_cons, List.length_cons, Nat.succ_mul]
    omega
theorem rest_list (c : Nat) (ws : List Nat) : (List.finRange ws.length).map (rF c ws) = ws.map fun x => c * x % ws.sum := by
  apply List.ext_getElem
  · simp
  · intro i h1 h2
    simp only [List.length_map, List.length_finRange] at h1
    simp [rF, rN, h1]
theorem rest_sum (last : Bool) (c : Nat) (ws : List Nat) (hS : 0 < ws.sum) : ((order last (rF c ws)).map (rF c ws)).sum = leftN c ws * ws.sum := by
  rw [perm_sum ((order_perm last (rF c ws)).map (rF c ws)), rest_list]
  have h1 := sum_parts c ws.sum ws
  rw [sum_mul] at h1
  have h2 := qSum_le c ws hS
  have h3 : qSum c ws ws.length = (ws.map fun x => c * x / ws.sum).sum := by unfold qSum; rw [List.take_length]
  unfold leftN
  rw [h3] at h2 ⊢
  rw [Nat.sub_mul]
  omega
theorem gotN_none (last : Bool) (c : Nat) (ws : List Nat) (hS : 0 < ws.sum) (j : Nat) (h0 : ws.getD j 0 = 0) : gotN last c ws (leftN c ws) j = false := by
  unfold gotN
  split
  · rename_i hj
    unfold got
    rw [decide_eq_false_iff_not]
    intro hm
    obtain ⟨p, hp, he⟩ := List.mem_iff_getElem.1 hm
    rw [List.length_take] at hp
    rw [List.getElem_take] at he
    have hpo : p < (order last (rF c ws)).length := by omega
    have hz : rF c ws ⟨j, hj⟩ = 0 := by unfold rF rN; rw [h0]; simp
    have hs := rest_sum last c ws hS
    have hd : ((order last (rF c ws)).drop p).map (rF c ws) = List.replicate ((order last (rF c ws)).length - p) 0 := by
      apply List.ext_getElem
      · simp
      · intro i h1 h2
        simp only [List.length_map, List.length_drop] at h1
        rw [List.getElem_map, List.getElem_drop, List.getElem_replicate]
        rcases Nat.eq_zero_or_pos i with h | h
        · subst h
          simpa [he] using hz
        · have hso := List.pairwise_iff_getElem.1 (order_sorted last (rF c ws)) p (p + i) hpo (by omega) (by omega)
          rw [prec_not, he, hz] at hso
          omega
    have ht : (order last (rF c ws)).map (rF c ws) = ((order last (rF c ws)).take p).map (rF c ws) ++ ((order last (rF c ws)).drop p).map (rF c ws) := by
      rw [← List.map_append, List.take_append_drop]
    rw [ht, List.sum_append, hd] at hs
    have hb : (((order last (rF c ws)).take p).map (rF c ws)).sum ≤ p * ws.sum := by
      have := sum_bound ws.sum (((order last (rF c ws)).take p).map (rF c ws)) (fun x hx => by
        obtain ⟨i, _, rfl⟩ := List.mem_map.1 hx
        exact Nat.le_of_lt (rN_lt c ws i.val hS))
      rwa [List.length_map, List.length_take, Nat.min_eq_left (by omega)] at this
    have hr : (List.replicate ((order last (rF c ws)).length - p) 0).sum = 0 := sum_zeros _ fun x hx => (List.mem_replicate.1 hx).2
    rw [hr] at hs
    have hk : p * ws.sum < leftN c ws * ws.sum := Nat.mul_lt_mul_of_pos_right (by omega) hS
    omega
  · rfl
theorem deal_zero (last : Bool) (c : Nat) (ws : List Nat) (hS : 0 < ws.sum) (j : Nat) (h0 : ws.getD j 0 = 0) : qN c ws j + (if gotN last c ws (leftN c ws) j = true then 1 else 0) = 0 := by
  rw [gotN_none last c ws hS j h0]
  unfold qN
  rw [h0]
  simp
end Go.Proofs.YtgdagknjnidmiaaGreatDoor.Deal
/- A map of one's own whose keys are strings, read as the list of its keys and what stands at each. -/
set_option linter.unusedVariables false
namespace Go.Proofs.YtgdagknjnidmiaaGreatDoor
open Go.RowKit Go.Maps

/-- an element as it is -/
def heldElem (v : Value) : Option (DataW Value × List MemPlace) := some (.held v, [])
/-- one string is another -/
def sameS (x s : ByteArray) : Bool := decide (x.data.toList = s.data.toList)
theorem sameS_eq {x s : ByteArray} : sameS x s = true ↔ x = s := by
  unfold sameS
  rw [decide_eq_true_eq]
  constructor
  · intro h
    cases x with
    | mk x =>
      cases s with
      | mk s => exact congrArg ByteArray.mk (Array.toList_inj.1 h)
  · rintro rfl; rfl
/-- the keys behind a store -/
def addK (ks : List ByteArray) (s : ByteArray) : List ByteArray := if hasS ks s = true then ks else ks ++ [s]
/-- what stands at the keys behind a store -/
def putV (g : ByteArray → Value) (s : ByteArray) (v : Value) : ByteArray → Value := fun x => if sameS s x = true then v else g x
theorem putV_same (g : ByteArray → Value) (s : ByteArray) (v : Value) : putV g s v s = v := by unfold putV; rw [if_pos (sameS_eq.2 rfl)]
theorem putV_other (g : ByteArray → Value) {s x : ByteArray} (v : Value) (h : s ≠ x) : putV g s v x = g x := by unfold putV; rw [if_neg (fun e => h (sameS_eq.1 e))]
theorem hasS_addK (ks : List ByteArray) (s x : ByteArray) : hasS (addK ks s) x = (hasS ks x || sameS s x) := by
  unfold addK
  by_cases h : hasS ks s = true
  · rw [if_pos h]
    by_cases e : sameS s x = true
    · have := sameS_eq.1 e; subst this; rw [h]; rfl
    · have e' : sameS s x = false := by simpa using e
      rw [e', Bool.or_false]
  · rw [if_neg h, hasS_snoc]; rfl
theorem hasS_mem {ks : List ByteArray} {s : ByteArray} : hasS ks s = true ↔ s ∈ ks := by
  unfold hasS
  rw [List.any_eq_true]
  constructor
  · rintro ⟨x, hx, e⟩
    have := sameS_eq.1 e
    subst this
    exact hx
  · intro h
    exact ⟨s, h, by simp⟩
theorem addK_nodup {ks : List ByteArray} (h : ks.Nodup) (s : ByteArray) : (addK ks s).Nodup := by
  unfold addK
  split
  · exact h
  · rename_i hs
    rw [List.nodup_append]
    refine ⟨h, by simp, fun a ha b hb e => ?_⟩
    obtain rfl := List.mem_singleton.1 hb
    subst e
    exact hs (hasS_mem.2 ha)
theorem addK_mem {ks : List ByteArray} {s x : ByteArray} : x ∈ addK ks s ↔ x ∈ ks ∨ x = s := by
  rw [← hasS_mem, hasS_addK, Bool.or_eq_true, hasS_mem, sameS_eq]
  exact ⟨fun h => h.imp id Eq.symm, fun h => h.imp id Eq.symm⟩

/-- block b is a map whose keys are the strings ks, with g at each; z: what a look-up of another key gives; n: how many were stored at most -/
def VM (w : World) (z : Value) (b n : Nat) (ks : List ByteArray) (g : ByteArray → Value) : Prop :=
  ∃ D : DataW Value, w.ownsMap Tryz.prog 9 heldElem b n D ∧ IsMap D ∧ ∀ s : ByteArray, Maps.has D (.string s.data.toList) = hasS ks s ∧ D.atKey (.string s.data.toList) (.held z) = .held (g s)
section
variable {w w' : World} {z : Value} {b n : Nat} {ks : List ByteArray} {g : ByteArray → Value}
theorem VM.made (w : World) (z : Value) : VM (w.alloc (.map #[] 0)) z w.heap.size 0 [] (fun _ => z) :=
  ⟨.map [], World.ownsMap_made _ _ _ _, isMap_empty, fun s => ⟨rfl, rfl⟩⟩
theorem VM.lt (h : VM w z b n ks g) : b < w.heap.size := by
  obtain ⟨D, hD, _⟩ := h
  exact hD.lt
theorem VM.kept {row : Option Nat} (h : VM w z b n ks g) (hg : w.grownBy w' row) (hne : some b ≠ row) : VM w' z b n ks g := by
  obtain ⟨D, hD, h2⟩ := h
  exact ⟨D, hD.kept hg hne, h2⟩
theorem VM.below (h : VM w z b n ks g) (hb : Below w.heap.size w w') : VM w' z b n ks g := h.kept (grown_of_below hb none) (by simp)
theorem VM.alloc (h : VM w z b n ks g) (o : Obj) : VM (w.alloc o) z b n ks g := h.kept (World.grownBy_alloc w o none) (by simp)
theorem VM.drewN (h : VM w z b n ks g) (m : Nat) : VM (w.drewN m) z b n ks g := h
theorem VM.blk (h : VM w z b n ks g) (e : w'.heap[b]? = w.heap[b]?) : VM w' z b n ks g := by
  obtain ⟨D, ⟨es, clock, hb, h2⟩, h3⟩ := h
  exact ⟨D, ⟨es, clock, e.trans hb, h2⟩, h3⟩
/-- m[s] -/
theorem VM.look {mt et : TypeId} (h : VM w z b n ks g) (hu : (Tryz.prog).underlying mt = some (.map 9 et)) (hz : (zeroValue et).run Tryz.prog w = .ok z w) (s : ByteArray) (hs : s.size ≤ maxLen) :
    (Instr.lookup mt (.map (some b)) (.string s) false).run Tryz.prog w = .ok (g s) w := by
  obtain ⟨D, hown, hD, hat⟩ := h
  obtain ⟨v, ps, hrun, hv⟩ := hown.lookup key_str hu hz (zd := .held z) (zp := []) rfl (WideMaps.keyOf_string_mk Tryz.underlying9 hs)
  have h5 : DataW.held v = D.atKey (.string s.data.toList) (.held z) := congrArg Prod.fst (Option.some.inj hv)
  have h6 : v = g s := DataW.held.inj (h5.trans (hat s).2)
  subst h6
  exact hrun
/-- v, ok := m[s] -/
theorem VM.look_ok {mt et : TypeId} (h : VM w z b n ks g) (hu : (Tryz.prog).underlying mt = some (.map 9 et)) (hz : (zeroValue et).run Tryz.prog w = .ok z w) (s : ByteArray) (hs : s.size ≤ maxLen) :
    (Instr.lookup mt (.map (some b)) (.string s) true).run Tryz.prog w = .ok (.tuple #[g s, .bool (hasS ks s)]) w := by
  obtain ⟨D, hown, hD, hat⟩ := h
  obtain ⟨v, ps, hrun, hv⟩ := hown.look_ok key_str hu hz (zd := .held z) (zp := []) rfl (WideMaps.keyOf_string_mk Tryz.underlying9 hs)
  have h5 : DataW.held v = D.atKey (.string s.data.toList) (.held z) := congrArg Prod.fst (Option.some.inj hv)
  have h6 : v = g s := DataW.held.inj (h5.trans (hat s).2)
  have h7 := (hat s).1
  subst h6
  rw [← h7]
  exact hrun
/-- m[s] = v -/
theorem wpList_update_vm {ops : Array Oper} {rest : List Oper} {o : Oper} {a : Act} {Q : Exit → Act → World → Prop} (w : World) (hg : o.guard = none) (m x v : Operand) (mt et : TypeId) (hop : o.op = Op.mapUpdate mt m x v) (hu : (Tryz.prog).underlying mt = some (.map 9 et))
    (z : Value) (b n : Nat) (ks : List ByteArray) (g : ByteArray → Value) (hm : a.eval m = .map (some b)) (hs : VM w z b n ks g) (hn : n < maxLen) (s : ByteArray) (y : Value) (hx : a.eval x = .string s) (hv : a.eval v = y) (hlen : s.size ≤ maxLen)
    (hK : ∀ w', VM w' z b (n + 1) (addK ks s) (putV g s y) → w.grownBy w' (some b) → wpList Tryz.prog ops Q rest (a.put o.dst undef) w') : wpList Tryz.prog ops Q (o :: rest) a w := by
  obtain ⟨D, hown, hD, hat⟩ := hs
  refine wpList_mapUpdate_own w hg m x v _ hop 9 et key_str hu _ b n D hm hown hn _ _ _ hx hv (WideMaps.keyOf_string_mk Tryz.underlying9 hlen) (.held y) [] rfl ?_
  intro w' h1 h2
  refine hK w' ⟨_, h1, hD.put _ _, fun t => ?_⟩ h2
  rw [hasS_addK]
  by_cases he : s.data.toList = t.data.toList
  · have e1 : sameS s t = true := decide_eq_true he
    have e2 := sameS_eq.1 e1
    subst e2
    rw [has_put_same hD (by unfold WideAt.IsKeyLit; trivial), atKey_put_same hD (by unfold WideAt.IsKeyLit; trivial), putV_same]
    simp [e1]
  · have e1 : sameS s t = false := by unfold sameS; simpa using he
    have hne : (Lit.string t.data.toList) ≠ Lit.string s.data.toList := by intro e; injection e with e; exact he e.symm
    rw [has_put_other hne, atKey_put_other hne, (hat t).1, (hat t).2, putV_other g y (fun e => by subst e; exact he rfl)]
    simp [e1]
end
end Go.Proofs.YtgdagknjnidmiaaGreatDoor
/- What letters are given, as plain lists: both ways to count lead to the same. -/
set_option linter.unusedVariables false
namespace Go.Proofs.YtgdagknjnidmiaaGreatDoor

/-- what has been given: the letters met, each one's cents and how many gains -/
structure Crd where
  keys : List ByteArray
  ce : ByteArray → Nat
  ga : ByteArray → Nat
def upF (f : ByteArray → Nat) (s : ByteArray) (n : Nat) : ByteArray → Nat := fun x => if sameS s x = true then f x + n else f x
theorem upF_same (f : ByteArray → Nat) (s : ByteArray) (n : Nat) : upF f s n s = f s + n := by unfold upF; rw [if_pos (sameS_eq.2 rfl)]
theorem upF_other (f : ByteArray → Nat) {s x : ByteArray} (n : Nat) (h : s ≠ x) : upF f s n x = f x := by unfold upF; rw [if_neg (fun e => h (sameS_eq.1 e))]
theorem upF_nil (f : ByteArray → Nat) (s : ByteArray) : upF f s 0 = f := by
  funext x
  unfold upF
  split <;> simp
/-- what is given for one gain, and whose gain has been counted -/
structure CrQ where
  c : Crd
  seen : List ByteArray
/-- one part: the letter, its cents, its weight; letters of no weight are passed over -/
def crO (q : CrQ) (p : ByteArray × Nat × Nat) : CrQ :=
  if p.2.2 = 0 then q else
  ⟨⟨addK q.c.keys p.1, upF q.c.ce p.1 p.2.1, if hasS q.seen p.1 = true then q.c.ga else upF q.c.ga p.1 1⟩, if hasS q.seen p.1 = true then q.seen else q.seen ++ [p.1]⟩
/-- the same; letters of no weight are met too -/
def crR (q : CrQ) (p : ByteArray × Nat × Nat) : CrQ :=
  ⟨⟨addK q.c.keys p.1, upF q.c.ce p.1 p.2.1, if 0 < p.2.2 ∧ hasS q.seen p.1 = false then upF q.c.ga p.1 1 else q.c.ga⟩, if 0 < p.2.2 ∧ hasS q.seen p.1 = false then q.seen ++ [p.1] else q.seen⟩
/-- all parts of a gain -/
def crOs (c : Crd) (l : List (ByteArray × Nat × Nat)) : Crd := (l.foldl crO ⟨c, []⟩).c
def crRs (c : Crd) (l : List (ByteArray × Nat × Nat)) : Crd := (l.foldl crR ⟨c, []⟩).c
/-- the two belong together -/
structure CrJ (o r : Crd) : Prop where
  ce : o.ce = r.ce
  ga : o.ga = r.ga
  ko : ∀ s, s ∈ o.keys ↔ 0 < o.ga s
  kr : ∀ s, s ∈ o.keys → s ∈ r.keys
  no : o.keys.Nodup
  nr : r.keys.Nodup
  z : ∀ s, s ∉ r.keys → r.ce s = 0 ∧ r.ga s = 0
theorem CrJ.nil : CrJ ⟨[], fun _ => 0, fun _ => 0⟩ ⟨[], fun _ => 0, fun _ => 0⟩ := ⟨rfl, rfl, fun s => by simp, fun s h => h, by simp, by simp, fun s _ => ⟨rfl, rfl⟩⟩
structure CrI (o r : CrQ) : Prop where
  j : CrJ o.c r.c
  seen : o.seen = r.seen
  got : ∀ s, s ∈ o.seen → 0 < o.c.ga s
theorem CrI.step {o r : CrQ} (h : CrI o r) (p : ByteArray × Nat × Nat) (hz : p.2.2 = 0 → p.2.1 = 0) : CrI (crO o p) (crR r p) := by
  obtain ⟨s, c, w⟩ := p
  obtain ⟨⟨ko, ceo, gao⟩, so⟩ := o
  obtain ⟨⟨kr, cer, gar⟩, sr⟩ := r
  obtain ⟨⟨h1, h2, h3, h4, h5, h6, h7⟩, h8, h9⟩ := h
  simp only at h1 h2 h3 h4 h5 h6 h7 h8 h9 hz
  subst h1 h2 h8
  have zer : ∀ (ce2 ga2 : ByteArray → Nat), (∀ x, s ≠ x → ce2 x = ceo x ∧ ga2 x = gao x) → ∀ x, x ∉ addK kr s → ce2 x = 0 ∧ ga2 x = 0 := by
    intro ce2 ga2 he x hx
    have h : ¬ (x ∈ kr ∨ x = s) := fun e => hx (addK_mem.2 e)
    have hxs : s ≠ x := fun e => h (Or.inr e.symm)
    obtain ⟨e1, e2⟩ := he x hxs
    rw [e1, e2]
    exact h7 x (fun e => h (Or.inl e))
  unfold crO crR
  by_cases hw : w = 0
  · subst hw
    have hc := hz rfl
    subst hc
    simp only [upF_nil, if_pos, Nat.lt_irrefl, false_and, if_false]
    exact ⟨⟨rfl, rfl, h3, fun x hx => addK_mem.2 (Or.inl (h4 x hx)), h5, addK_nodup h6 s, zer _ _ (fun x _ => ⟨rfl, rfl⟩)⟩, rfl, h9⟩
  · have hw' : 0 < w := Nat.pos_of_ne_zero hw
    simp only [hw, if_false, hw', true_and]
    by_cases hs : hasS so s = true
    · have hs' : ¬ hasS so s = false := by rw [hs]; decide
      simp only [if_pos hs, if_neg hs']
      refine ⟨⟨rfl, rfl, fun x => ?_, fun x hx => ?_, addK_nodup h5 s, addK_nodup h6 s, zer _ _ (fun x hx => ⟨upF_other _ _ hx, rfl⟩)⟩, rfl, h9⟩
      · show x ∈ addK ko s ↔ 0 < gao x
        rw [addK_mem, h3]
        exact ⟨fun e => e.elim id (fun e => by subst e; exact h9 x (hasS_mem.1 hs)), Or.inl⟩
      · exact addK_mem.2 ((addK_mem.1 hx).imp (h4 x) id)
    · have hs' : hasS so s = false := by simpa using hs
      simp only [if_neg hs, if_pos hs']
      refine ⟨⟨rfl, rfl, fun x => ?_, fun x hx => ?_, addK_nodup h5 s, addK_nodup h6 s, zer _ _ (fun x hx => ⟨upF_other _ _ hx, upF_other _ _ hx⟩)⟩, rfl, fun x hx => ?_⟩
      · show x ∈ addK ko s ↔ 0 < upF gao s 1 x
        rw [addK_mem, h3]
        by_cases e : s = x
        · subst e
          rw [upF_same]
          exact ⟨fun _ => Nat.succ_pos _, fun _ => Or.inr rfl⟩
        · rw [upF_other _ _ e]
          exact ⟨fun h => h.elim id (fun h => absurd h.symm e), Or.inl⟩
      · exact addK_mem.2 ((addK_mem.1 hx).imp (h4 x) id)
      · show 0 < upF gao s 1 x
        by_cases e : s = x
        · subst e; rw [upF_same]; omega
        · rw [upF_other _ _ e]
          rcases List.mem_append.1 hx with hx | hx
          · exact h9 x hx
          · exact absurd (List.mem_singleton.1 hx).symm e
theorem CrI.all {o r : CrQ} (h : CrI o r) (l : List (ByteArray × Nat × Nat)) (hz : ∀ p ∈ l, p.2.2 = 0 → p.2.1 = 0) : CrI (l.foldl crO o) (l.foldl crR r) := by
  induction l generalizing o r with
  | nil => exact h
  | cons p l ih => exact ih (h.step p (hz p (by simp))) fun q hq => hz q (by simp [hq])
theorem CrJ.gain {o r : Crd} (h : CrJ o r) (l : List (ByteArray × Nat × Nat)) (hz : ∀ p ∈ l, p.2.2 = 0 → p.2.1 = 0) : CrJ (crOs o l) (crRs r l) :=
  (CrI.all (o := ⟨o, []⟩) (r := ⟨r, []⟩) ⟨h, rfl, fun s hs => by simp at hs⟩ l hz).j
end Go.Proofs.YtgdagknjnidmiaaGreatDoor
/- What a gain gives to the letters of its path, as plain lists. -/
set_option linter.unusedVariables false
namespace Go.Proofs.YtgdagknjnidmiaaGreatDoor
open Deal

instance : Inhabited Snt := ⟨⟨⟨#[]⟩, ⟨#[]⟩, ⟨#[]⟩, 0⟩⟩
theorem stepE_late {pre : List Snt} {x : Snt} (h : stepE pre x = 0) : lateB pre x = false := by
  unfold stepE sE at h
  cases hm : lateB pre x
  · rfl
  · rw [hm] at h
    repeat (split at h <;> try cases h)
    all_goals simp_all
theorem sentGo_pw : ∀ (l pre : List Snt), sentGo pre l = 0 → l.Pairwise (fun x y => x.at_ ≤ y.at_) ∧ ∀ y, pre.getLast? = some y → ∀ x ∈ l, y.at_ ≤ x.at_
  | [], pre, _ => ⟨List.Pairwise.nil, by simp⟩
  | x :: r, pre, h => by
    rw [sentGo] at h
    split at h
    · rename_i h0
      obtain ⟨h1, h2⟩ := sentGo_pw r (pre ++ [x]) h
      have h3 := h2 x (by simp)
      have hl := stepE_late h0
      refine ⟨List.pairwise_cons.2 ⟨h3, h1⟩, fun y hy z hz => ?_⟩
      have hyx : y.at_ ≤ x.at_ := by
        unfold lateB at hl
        rw [hy] at hl
        simpa using hl
      rcases List.mem_cons.1 hz with rfl | hz
      · exact hyx
      · exact Int.le_trans hyx (h3 z hz)
    · contradiction
theorem sentE_pw {l : List Snt} (h : sentE l = 0) : l.Pairwise fun x y => x.at_ ≤ y.at_ := (sentGo_pw l [] h).1

/-- the places of a path -/
def pathN (P : Snt → Bool) (l : List Snt) : List Nat := ((List.range' 0 l.length).filter (hitP P l)).drop (((List.range' 0 l.length).filter (hitP P l)).length - 12)
theorem pathL_N (P : Snt → Bool) (l : List Snt) : pathL P l = (pathN P l).map Int.ofNat := by
  unfold pathL pathN pIdx
  rw [List.map_drop, List.length_map]
theorem pathN_len (P : Snt → Bool) (l : List Snt) : (pathN P l).length ≤ 12 := by
  unfold pathN
  rw [List.length_drop]
  omega
theorem pathN_at {P : Snt → Bool} {l : List Snt} {i : Nat} (h : i ∈ pathN P l) : ∃ hi : i < l.length, P l[i] = true := by
  have h1 := (List.mem_filter.1 (List.mem_of_mem_drop h)).2
  unfold hitP at h1
  cases hx : l[i]? with
  | none => rw [hx] at h1; cases h1
  | some x =>
    rw [hx] at h1
    obtain ⟨hi, e⟩ := List.getElem?_eq_some_iff.1 hx
    exact ⟨hi, by rw [e]; exact h1⟩
theorem pathN_pw (P : Snt → Bool) (l : List Snt) : (pathN P l).Pairwise (· < ·) := by
  unfold pathN
  refine List.Pairwise.sublist (List.drop_sublist _ _) ?_
  refine List.Pairwise.sublist List.filter_sublist ?_
  exact List.pairwise_lt_range'
/-- how old the letters are -/
def agL (l : List Snt) (g : Gn) (q : List Nat) : List Int := q.map fun i => g.at_ - (l.getD i default).at_
theorem agL_len (l : List Snt) (g : Gn) (q : List Nat) : (agL l g q).length = q.length := by simp [agL]
theorem agL_at (l : List Snt) (g : Gn) (q : List Nat) (k : Nat) (hk : k < q.length) : (agL l g q).getD k 0 = g.at_ - (l.getD q[k] default).at_ := by
  unfold agL
  rw [List.getD_eq_getElem?_getD, List.getElem?_map, List.getElem?_eq_getElem hk]
  rfl
theorem pathP_age {g : Gn} {span : Int} {x : Snt} (h : pathP g span x = true) : 1 ≤ g.at_ - x.at_ ∧ g.at_ - x.at_ ≤ span := by
  unfold pathP at h
  rw [Bool.and_eq_true, Bool.and_eq_true, decide_eq_true_eq, decide_eq_true_eq] at h
  omega
theorem getD_at (l : List Snt) {i : Nat} (hi : i < l.length) : l.getD i default = l[i] := by simp [hi]
/-- the ages of a path are right -/
theorem ages_good (l : List Snt) (g : Gn) (span : Int) (hs : sentE l = 0) (k : Nat) (hk : k < (pathN (pathP g span) l).length) : badA span (agL l g (pathN (pathP g span) l)) k = 0 := by
  obtain ⟨hi, hp⟩ := pathN_at (List.getElem_mem hk)
  have h1 := pathP_age hp
  unfold badA
  rw [agL_at _ _ _ _ hk, getD_at l hi, if_neg (by omega), if_neg]
  rintro ⟨h0, h2⟩
  have hk' : k - 1 < (pathN (pathP g span) l).length := by omega
  obtain ⟨hi', hp'⟩ := pathN_at (List.getElem_mem hk')
  rw [agL_at _ _ _ _ hk', getD_at l hi'] at h2
  have h3 := List.pairwise_iff_getElem.1 (pathN_pw (pathP g span) l) (k - 1) k hk' hk (by omega)
  have h4 := List.pairwise_iff_getElem.1 (sentE_pw hs) _ _ hi' hi h3
  omega
theorem ages_scan (l : List Snt) (g : Gn) (span : Int) (hs : sentE l = 0) : scanE span (agL l g (pathN (pathP g span) l)) = 0 :=
  scan_good span _ fun k hk => ages_good l g span hs k (by rwa [agL_len] at hk)

theorem wgt_bd (how : Int) (p i n : Nat) (hi : i < n) (hn : n ≤ 12) : 0 ≤ wgt how p i n ∧ wgt how p i n ≤ 262144 := by
  have := half_bd p
  unfold wgt
  generalize 2 ^ (18 - p) = x at *
  split
  · omega
  · split
    · omega
    · split
      · omega
      · split
        · omega
        · omega
/-- the weights -/
def wsN (how span : Int) (zs : List Int) : List Nat := (wgtL how span zs zs.length).map Int.toNat
theorem wsN_len (how span : Int) (zs : List Int) : (wsN how span zs).length = zs.length := by unfold wsN; rw [List.length_map, wgtL_len]
theorem wsN_bd {how span : Int} {zs : List Int} (hn : zs.length ≤ 12) : ∀ x ∈ wsN how span zs, x ≤ 262144 := by
  intro x hx
  unfold wsN wgtL at hx
  rw [List.map_map] at hx
  obtain ⟨i, hi, rfl⟩ := List.mem_map.1 hx
  have := wgt_bd how (18 * (zs.getD i 0).toNat / span.toNat) i zs.length (List.mem_range.1 hi) hn
  simp only [Function.comp]
  omega
theorem wsN_ints {how span : Int} {zs : List Int} (hn : zs.length ≤ 12) : ((wsN how span zs).map fun (x : Nat) => (x : Int)) = wgtL how span zs zs.length := by
  unfold wsN
  rw [List.map_map]
  conv => rhs; rw [← List.map_id (wgtL how span zs zs.length)]
  refine List.map_congr_left fun x hx => ?_
  unfold wgtL at hx
  obtain ⟨i, hi, rfl⟩ := List.mem_map.1 hx
  have := wgt_bd how (18 * (zs.getD i 0).toNat / span.toNat) i zs.length (List.mem_range.1 hi) hn
  simp only [Function.comp, id]
  omega
theorem le_sum {l : List Nat} {x : Nat} (h : x ∈ l) : x ≤ l.sum := by
  induction l with
  | nil => cases h
  | cons y l ih =>
    rw [List.sum_cons]
    rcases List.mem_cons.1 h with rfl | h
    · omega
    · have := ih h; omega
theorem wgt_some (how : Int) (p n : Nat) (h1 : 1 ≤ how) (h2 : how ≤ 6) (hn : 0 < n) : 1 ≤ wgt how p (if how = 2 then n - 1 else 0) n := by
  have h3 : (1 : Int) ≤ ((2 ^ (18 - p) : Nat) : Int) := by
    have : 0 < 2 ^ (18 - p) := Nat.pow_pos (by omega)
    omega
  by_cases h : how = 2
  · subst h
    rw [if_pos rfl]
    unfold wgt
    rw [if_neg (by omega), if_neg (by omega), if_neg (by omega), if_neg (by omega)]
    omega
  · rw [if_neg h]
    unfold wgt
    rw [if_neg (by omega)]
    split
    · omega
    · split
      · omega
      · split
        · exact h3
        · omega
theorem wsN_pos (how span : Int) (zs : List Int) (h1 : 1 ≤ how) (h2 : how ≤ 6) (hn : 0 < zs.length) : 0 < (wsN how span zs).sum := by
  have hj : (if how = 2 then zs.length - 1 else 0) < zs.length := by split <;> omega
  have h := wgt_some how (18 * (zs.getD (if how = 2 then zs.length - 1 else 0) 0).toNat / span.toNat) zs.length h1 h2 hn
  have hm : (wgt how (18 * (zs.getD (if how = 2 then zs.length - 1 else 0) 0).toNat / span.toNat) (if how = 2 then zs.length - 1 else 0) zs.length).toNat ∈ wsN how span zs := by
    unfold wsN wgtL
    rw [List.map_map]
    exact List.mem_map.2 ⟨_, List.mem_range.2 hj, rfl⟩
  have := le_sum hm
  omega
theorem wsN_sum {how span : Int} {zs : List Int} (hn : zs.length ≤ 12) : (wsN how span zs).sum ≤ 12 * 262144 := by
  have h1 := sum_bound 262144 (wsN how span zs) (wsN_bd hn)
  rw [wsN_len] at h1
  exact Nat.le_trans h1 (Nat.mul_le_mul_right _ hn)
/-- the part of the letter at place k of the path -/
def partN (c : Nat) (ws : List Nat) (k : Nat) : Nat := qN c ws k + if gotN true c ws (leftN c ws) k = true then 1 else 0
theorem partN_deal (c : Nat) (ws : List Nat) (k : Nat) (hk : k < ws.length) : (dealL true c ws)[k]? = some (partN c ws k : Int) := by
  unfold dealL partN
  rw [List.getElem?_map, List.getElem?_range hk]
  rfl
/-- all parts of a gain -/
def partsL (l : List Snt) (c : Nat) (q ws : List Nat) (k : Nat) : List (ByteArray × Nat × Nat) := (List.range k).map fun j => ((l.getD (q.getD j 0) default).letter, partN c ws j, ws.getD j 0)
theorem partsL_succ (l : List Snt) (c : Nat) (q ws : List Nat) (k : Nat) : partsL l c q ws (k + 1) = partsL l c q ws k ++ [((l.getD (q.getD k 0) default).letter, partN c ws k, ws.getD k 0)] := by
  unfold partsL
  rw [List.range_succ, List.map_append]
  rfl
theorem partsL_zero {l : List Snt} {c : Nat} {q ws : List Nat} {k : Nat} (hS : 0 < ws.sum) : ∀ p ∈ partsL l c q ws k, p.2.2 = 0 → p.2.1 = 0 := by
  intro p hp h0
  unfold partsL at hp
  obtain ⟨j, _, rfl⟩ := List.mem_map.1 hp
  exact deal_zero true c ws hS j h0
/-- what one gain does -/
def gainO (l : List Snt) (how span : Int) (o : Crd) (g : Gn) : Crd :=
  crOs o (partsL l g.cents.toNat (pathN (pathP g span) l) (wsN how span (agL l g (pathN (pathP g span) l))) (pathN (pathP g span) l).length)
def gainR (l : List Snt) (how span : Int) (o : Crd) (g : Gn) : Crd :=
  crRs o (partsL l g.cents.toNat (pathN (pathP g span) l) (wsN how span (agL l g (pathN (pathP g span) l))) (pathN (pathP g span) l).length)
theorem gain_nil {l : List Snt} {how span : Int} {o : Crd} {g : Gn} (h : (pathN (pathP g span) l).length = 0) : gainO l how span o g = o ∧ gainR l how span o g = o := by
  unfold gainO gainR
  rw [h]
  exact ⟨rfl, rfl⟩
theorem CrJ.one {o r : Crd} (h : CrJ o r) (l : List Snt) (how span : Int) (g : Gn) (h1 : 1 ≤ how) (h2 : how ≤ 6) : CrJ (gainO l how span o g) (gainR l how span r g) := by
  rcases Nat.eq_zero_or_pos (pathN (pathP g span) l).length with h0 | h0
  · rw [(gain_nil h0).1, (gain_nil h0).2]
    exact h
  · exact h.gain _ (partsL_zero (wsN_pos how span _ h1 h2 (by rw [agL_len]; exact h0)))
/-- all gains -/
def gainsO (l : List Snt) (how span : Int) (gs : List Gn) (k : Nat) : Crd := (gs.take k).foldl (gainO l how span) ⟨[], fun _ => 0, fun _ => 0⟩
def gainsR (l : List Snt) (how span : Int) (gs : List Gn) (k : Nat) : Crd := (gs.take k).foldl (gainR l how span) ⟨[], fun _ => 0, fun _ => 0⟩
theorem gainsO_succ (l : List Snt) (how span : Int) (gs : List Gn) (k : Nat) (hk : k < gs.length) : gainsO l how span gs (k + 1) = gainO l how span (gainsO l how span gs k) gs[k] := by
  unfold gainsO
  rw [List.take_succ_eq_append_getElem hk, List.foldl_append]
  rfl
theorem gainsR_succ (l : List Snt) (how span : Int) (gs : List Gn) (k : Nat) (hk : k < gs.length) : gainsR l how span gs (k + 1) = gainR l how span (gainsR l how span gs k) gs[k] := by
  unfold gainsR
  rw [List.take_succ_eq_append_getElem hk, List.foldl_append]
  rfl
theorem CrJ.gains (l : List Snt) (how span : Int) (gs : List Gn) (h1 : 1 ≤ how) (h2 : how ≤ 6) : ∀ k, k ≤ gs.length → CrJ (gainsO l how span gs k) (gainsR l how span gs k)
  | 0, _ => CrJ.nil
  | k + 1, hk => by
    rw [gainsO_succ _ _ _ _ _ (by omega), gainsR_succ _ _ _ _ _ (by omega)]
    exact (CrJ.gains l how span gs h1 h2 k (by omega)).one l how span _ h1 h2
/-- what belongs to nobody -/
def noneN (l : List Snt) (span : Int) (gs : List Gn) (k : Nat) : Int := ((gs.take k).map fun g => if (pathN (pathP g span) l).length = 0 then g.cents else 0).sum
theorem noneN_succ (l : List Snt) (span : Int) (gs : List Gn) (k : Nat) (hk : k < gs.length) : noneN l span gs (k + 1) = noneN l span gs k + if (pathN (pathP gs[k] span) l).length = 0 then gs[k].cents else 0 := by
  unfold noneN
  rw [List.take_succ_eq_append_getElem hk, List.map_append, List.sum_append]
  simp
end Go.Proofs.YtgdagknjnidmiaaGreatDoor
/- Sums by keys: sorted and put together, or put in one after the other; the order of lists of strings. -/
set_option linter.unusedVariables false
namespace Go.Proofs.YtgdagknjnidmiaaGreatDoor
open Go.RowKit

structure TotCmp {κ : Type} (c : κ → κ → Int) : Prop where
  eq : ∀ x y, c x y = 0 ↔ x = y
  anti : ∀ x y, c x y < 0 ↔ 0 < c y x
  tr : ∀ x y z, c x y < 0 → c y z < 0 → c x z < 0

abbrev El (κ : Type) := κ × Int × Int
section
variable {κ : Type} {c : κ → κ → Int}
abbrev addE (y x : El κ) : El κ := (y.1, y.2.1 + x.2.1, y.2.2 + x.2.2)
/-- x put in its place; where its key is already there, added -/
def insF (c : κ → κ → Int) (x : El κ) : List (El κ) → List (El κ)
  | [] => [x]
  | y :: r => if c y.1 x.1 < 0 then y :: insF c x r else if c y.1 x.1 = 0 then addE y x :: r else x :: y :: r
theorem addE_key (y x : El κ) : (addE y x).1 = y.1 := rfl
theorem TotCmp.self (h : TotCmp c) (x : κ) : c x x = 0 := (h.eq x x).2 rfl
theorem TotCmp.flip (h : TotCmp c) {x y : κ} (h1 : ¬ c x y < 0) (h2 : ¬ c x y = 0) : c y x < 0 := by
  rw [h.anti]
  omega
theorem insF_comm (h : TotCmp c) (x y : El κ) : ∀ l, insF c x (insF c y l) = insF c y (insF c x l)
  | [] => by
    simp only [insF]
    by_cases h1 : c y.1 x.1 < 0
    · have h2 : ¬ c x.1 y.1 < 0 := by have := (h.anti y.1 x.1).1 h1; omega
      have h3 : ¬ c x.1 y.1 = 0 := by have := (h.anti y.1 x.1).1 h1; omega
      rw [if_pos h1, if_neg h2, if_neg h3]
    · by_cases h2 : c y.1 x.1 = 0
      · have e := (h.eq y.1 x.1).1 h2
        have h3 : c x.1 y.1 = 0 := (h.eq _ _).2 e.symm
        rw [if_neg h1, if_pos h2, if_neg (by omega), if_pos h3]
        simp only [addE, e, Int.add_comm]
      · have h3 := h.flip h1 h2
        rw [if_neg h1, if_neg h2, if_pos h3]
  | z :: r => by
    have ih := insF_comm h x y r
    by_cases a1 : c z.1 y.1 < 0
    · by_cases b1 : c z.1 x.1 < 0
      · simp only [insF, if_pos a1, if_pos b1, ih]
      · by_cases b2 : c z.1 x.1 = 0
        · have e := (h.eq _ _).1 b2
          simp only [insF, if_pos a1, if_neg b1, if_pos b2]
        · have b3 := h.flip b1 b2
          have x1 : c x.1 y.1 < 0 := h.tr _ _ _ b3 a1
          simp only [insF, if_pos a1, if_neg b1, if_neg b2, if_pos x1]
    · by_cases a2 : c z.1 y.1 = 0
      · have e := (h.eq _ _).1 a2
        by_cases b1 : c z.1 x.1 < 0
        · simp only [insF, if_neg a1, if_pos a2, if_pos b1]
        · by_cases b2 : c z.1 x.1 = 0
          · simp only [insF, if_neg a1, if_pos a2, if_neg b1, if_pos b2]
            simp only [addE, Int.add_assoc, Int.add_comm x.2.1, Int.add_comm x.2.2]
          · have b3 := h.flip b1 b2
            have x1 : c x.1 y.1 < 0 := by rw [← e]; exact b3
            simp only [insF, if_neg a1, if_pos a2, if_neg b1, if_neg b2, if_pos x1]
      · have a3 := h.flip a1 a2
        by_cases b1 : c z.1 x.1 < 0
        · have x1 : c y.1 x.1 < 0 := h.tr _ _ _ a3 b1
          simp only [insF, if_neg a1, if_neg a2, if_pos b1, if_pos x1]
        · by_cases b2 : c z.1 x.1 = 0
          · have e := (h.eq _ _).1 b2
            have x1 : c y.1 x.1 < 0 := by rw [← e]; exact a3
            simp only [insF, if_neg a1, if_neg a2, if_neg b1, if_pos b2, if_pos x1]
          · have b3 := h.flip b1 b2
            by_cases x1 : c y.1 x.1 < 0
            · have x2 : ¬ c x.1 y.1 < 0 := by have := (h.anti _ _).1 x1; omega
              have x3 : ¬ c x.1 y.1 = 0 := by have := (h.anti _ _).1 x1; omega
              simp only [insF, if_neg a1, if_neg a2, if_neg b1, if_neg b2, if_pos x1, if_neg x2, if_neg x3]
            · by_cases x2 : c y.1 x.1 = 0
              · have e := (h.eq _ _).1 x2
                have x3 : c x.1 y.1 = 0 := (h.eq _ _).2 e.symm
                simp only [insF, if_neg a1, if_neg a2, if_neg b1, if_neg b2, if_neg x1, if_pos x2, if_neg (show ¬ c x.1 y.1 < 0 by omega), if_pos x3]
                simp only [addE, e, Int.add_comm]
              · have x3 := h.flip x1 x2
                simp only [insF, if_neg a1, if_neg a2, if_neg b1, if_neg b2, if_neg x1, if_neg x2, if_pos x3]
theorem insF_perm (h : TotCmp c) {l m : List (El κ)} (hp : l.Perm m) : ∀ o, l.foldl (fun o x => insF c x o) o = m.foldl (fun o x => insF c x o) o := by
  induction hp with
  | nil => intro o; rfl
  | cons x _ ih => intro o; exact ih _
  | swap x y l => intro o; simp only [List.foldl_cons]; rw [insF_comm h]
  | trans _ _ ih1 ih2 => intro o; rw [ih1, ih2]
/-- x behind what is there: added to the last where that has its key -/
def mgStep [DecidableEq κ] (o : List (El κ)) (x : El κ) : List (El κ) :=
  match o.getLast? with
  | some y => if y.1 = x.1 then o.dropLast ++ [addE y x] else o ++ [x]
  | none => [x]
theorem insF_app (x : El κ) : ∀ (a b : List (El κ)), (∀ y ∈ a, c y.1 x.1 < 0) → insF c x (a ++ b) = a ++ insF c x b
  | [], _, _ => rfl
  | y :: a, b, h => by
    simp only [List.cons_append, insF]
    rw [if_pos (h y (by simp)), insF_app x a b (fun z hz => h z (by simp [hz]))]
theorem mg_ins [DecidableEq κ] (h : TotCmp c) (o : List (El κ)) (x : El κ) (hs : o.Pairwise fun y z => c y.1 z.1 < 0) (hx : ∀ y ∈ o, c y.1 x.1 ≤ 0) : mgStep o x = insF c x o := by
  rcases List.eq_nil_or_concat o with rfl | ⟨a, y, rfl⟩
  · rfl
  · have hy := hx y (by simp)
    have ha : ∀ z ∈ a, c z.1 x.1 < 0 := fun z hz => by
      have h1 : c z.1 y.1 < 0 := by
        rw [List.concat_eq_append, List.pairwise_append] at hs
        exact hs.2.2 z hz y (by simp)
      by_cases h2 : c y.1 x.1 = 0
      · rw [← (h.eq _ _).1 h2]; exact h1
      · exact h.tr _ _ _ h1 (by omega)
    unfold mgStep
    rw [List.concat_eq_append, insF_app x a [y] ha]
    simp only [List.getLast?_append, List.getLast?_singleton, Option.some_or, List.dropLast_concat, insF]
    by_cases h1 : c y.1 x.1 < 0
    · have h2 : ¬ y.1 = x.1 := fun e => by have := (h.eq _ _).2 e; omega
      rw [if_neg h2, if_pos h1]
      simp
    · have h2 : c y.1 x.1 = 0 := by omega
      have h3 := (h.eq _ _).1 h2
      rw [if_pos h3, if_neg h1, if_pos h2]
theorem mg_keep (h : TotCmp c) [DecidableEq κ] (o r : List (El κ)) (x : El κ) (hs : o.Pairwise fun y z => c y.1 z.1 < 0) (hx : ∀ y ∈ o, ∀ z ∈ x :: r, c y.1 z.1 ≤ 0) (hr : ∀ z ∈ r, c x.1 z.1 ≤ 0) :
    (mgStep o x).Pairwise (fun y z => c y.1 z.1 < 0) ∧ ∀ y ∈ mgStep o x, ∀ z ∈ r, c y.1 z.1 ≤ 0 := by
  rcases List.eq_nil_or_concat o with rfl | ⟨a, y, rfl⟩
  · exact ⟨by simp [mgStep], fun y hy z hz => by
      simp [mgStep] at hy
      subst hy
      exact hr z hz⟩
  · rw [List.concat_eq_append] at *
    rw [List.pairwise_append] at hs
    obtain ⟨h1, -, h3⟩ := hs
    unfold mgStep
    simp only [List.getLast?_append, List.getLast?_singleton, Option.some_or, List.dropLast_concat]
    by_cases e : y.1 = x.1
    · rw [if_pos e]
      refine ⟨List.pairwise_append.2 ⟨h1, by simp, fun z hz w hw => ?_⟩, fun w hw z hz => ?_⟩
      · simp at hw; subst hw; exact h3 z hz y (by simp)
      · rcases List.mem_append.1 hw with hw | hw
        · exact hx w (by simp [hw]) z (by simp [hz])
        · simp at hw; subst hw; exact hx y (by simp) z (by simp [hz])
    · rw [if_neg e]
      have hyx : c y.1 x.1 < 0 := by
        have := hx y (by simp) x (by simp)
        have h4 : ¬ c y.1 x.1 = 0 := fun e' => e ((h.eq _ _).1 e')
        omega
      refine ⟨List.pairwise_append.2 ⟨List.pairwise_append.2 ⟨h1, by simp, h3⟩, by simp, fun z hz w hw => ?_⟩, fun w hw z hz => ?_⟩
      · simp only [List.mem_singleton] at hw
        subst hw
        rcases List.mem_append.1 hz with hz | hz
        · exact h.tr _ _ _ (h3 z hz y (by simp)) hyx
        · simp at hz; subst hz; exact hyx
      · rcases List.mem_append.1 hw with hw | hw
        · exact hx w hw z (by simp [hz])
        · simp at hw; subst hw; exact hr z hz
theorem mg_fold (h : TotCmp c) [DecidableEq κ] : ∀ (l o : List (El κ)), l.Pairwise (fun x y => c x.1 y.1 ≤ 0) → o.Pairwise (fun y z => c y.1 z.1 < 0) → (∀ y ∈ o, ∀ z ∈ l, c y.1 z.1 ≤ 0) → l.foldl mgStep o = l.foldl (fun o x => insF c x o) o
  | [], o, _, _, _ => rfl
  | x :: r, o, hl, ho, hx => by
    rw [List.pairwise_cons] at hl
    obtain ⟨k1, k2⟩ := mg_keep h o r x ho hx hl.1
    simp only [List.foldl_cons]
    rw [mg_fold h r _ hl.2 k1 k2, mg_ins h o x ho (fun y hy => hx y hy x (by simp))]
/-- sorted in whatever way, and put together: as put in one after the other -/
theorem fold_same (h : TotCmp c) [DecidableEq κ] {l s : List (El κ)} (hp : s.Perm l) (hs : s.Pairwise fun x y => c x.1 y.1 ≤ 0) : s.foldl mgStep [] = l.foldl (fun o x => insF c x o) [] := by
  rw [mg_fold h s [] hs List.Pairwise.nil (by simp), insF_perm h hp]
/-- what one after the other leaves is in order, strictly -/
theorem insF_mem (x : El κ) : ∀ (l : List (El κ)) (y : El κ), y ∈ insF c x l → y.1 = x.1 ∨ ∃ z ∈ l, z.1 = y.1
  | [], y, hy => by simp [insF] at hy; exact .inl (by rw [hy])
  | z :: r, y, hy => by
    simp only [insF] at hy
    split at hy
    · rcases List.mem_cons.1 hy with rfl | hy
      · exact .inr ⟨y, by simp, rfl⟩
      · rcases insF_mem x r y hy with h | ⟨w, hw, e⟩
        · exact .inl h
        · exact .inr ⟨w, by simp [hw], e⟩
    · split at hy
      · rcases List.mem_cons.1 hy with rfl | hy
        · exact .inr ⟨z, by simp, rfl⟩
        · exact .inr ⟨y, by simp [hy], rfl⟩
      · rcases List.mem_cons.1 hy with rfl | hy
        · exact .inl rfl
        · exact .inr ⟨y, hy, rfl⟩
theorem insF_sorted (h : TotCmp c) (x : El κ) : ∀ (l : List (El κ)), l.Pairwise (fun y z => c y.1 z.1 < 0) → (insF c x l).Pairwise fun y z => c y.1 z.1 < 0
  | [], _ => by simp [insF]
  | z :: r, hl => by
    rw [List.pairwise_cons] at hl
    simp only [insF]
    by_cases h1 : c z.1 x.1 < 0
    · rw [if_pos h1, List.pairwise_cons]
      refine ⟨fun y hy => ?_, insF_sorted h x r hl.2⟩
      rcases insF_mem x r y hy with e | ⟨w, hw, e⟩
      · rw [e]; exact h1
      · rw [← e]; exact hl.1 w hw
    · rw [if_neg h1]
      by_cases h2 : c z.1 x.1 = 0
      · rw [if_pos h2, List.pairwise_cons]
        exact ⟨hl.1, hl.2⟩
      · have h3 := h.flip h1 h2
        rw [if_neg h2, List.pairwise_cons]
        refine ⟨fun y hy => ?_, List.pairwise_cons.2 hl⟩
        rcases List.mem_cons.1 hy with rfl | hy
        · exact h3
        · exact h.tr _ _ _ h3 (hl.1 y hy)
/-- the first place whose key is not less -/
def plF (c : κ → κ → Int) (k : κ) : List (El κ) → Nat
  | [] => 0
  | y :: r => if c y.1 k < 0 then plF c k r + 1 else 0
theorem plF_le (k : κ) : ∀ l, plF c k l ≤ l.length
  | [] => Nat.le_refl _
  | y :: r => by
    simp only [plF, List.length_cons]
    have := plF_le k r
    split <;> omega
theorem insF_at (x : El κ) : ∀ (l : List (El κ)), (∀ h : plF c x.1 l < l.length, c l[plF c x.1 l].1 x.1 = 0 → insF c x l = l.set (plF c x.1 l) (addE l[plF c x.1 l] x)) ∧ ((∀ h : plF c x.1 l < l.length, ¬ c l[plF c x.1 l].1 x.1 = 0) → insF c x l = l.take (plF c x.1 l) ++ x :: l.drop (plF c x.1 l))
  | [] => ⟨fun h => by simp [plF] at h, fun _ => rfl⟩
  | y :: r => by
    obtain ⟨i1, i2⟩ := insF_at x r
    by_cases h1 : c y.1 x.1 < 0
    · have hp : plF c x.1 (y :: r) = plF c x.1 r + 1 := by simp only [plF]; rw [if_pos h1]
      have hi : insF c x (y :: r) = y :: insF c x r := by simp only [insF]; rw [if_pos h1]
      simp only [hp, hi]
      refine ⟨fun h h2 => ?_, fun h => ?_⟩
      · rw [i1 (by simpa using h) (by simpa using h2)]
        simp
      · rw [i2 (fun h3 => by simpa using h (by simpa using h3))]
        simp
    · have hp : plF c x.1 (y :: r) = 0 := by simp only [plF]; rw [if_neg h1]
      simp only [hp]
      refine ⟨fun h h2 => ?_, fun h => ?_⟩
      · simp only [insF]
        rw [if_neg h1, if_pos (by simpa using h2)]
        simp
      · simp only [insF]
        rw [if_neg h1, if_neg (by simpa using h (by simp))]
        simp
end
/-- lists by their first difference, the shorter first -/
def lexC {κ : Type} (c : κ → κ → Int) : List κ → List κ → Int
  | [], [] => 0
  | [], _ :: _ => -1
  | _ :: _, [] => 1
  | a :: l, b :: m => if c a b = 0 then lexC c l m else c a b
theorem lexC_tot {κ : Type} {c : κ → κ → Int} (h : TotCmp c) : TotCmp (lexC c) where
  eq := by
    intro x
    induction x with
    | nil => intro y; cases y <;> simp [lexC]
    | cons a l ih =>
      intro y
      cases y with
      | nil => simp [lexC]
      | cons b m =>
        simp only [lexC]
        by_cases h1 : c a b = 0
        · rw [if_pos h1, ih m, (h.eq a b).1 h1]
          simp
        · rw [if_neg h1]
          constructor
          · intro h2; exact absurd h2 h1
          · intro h2
            injection h2 with h2 h3
            exact absurd ((h.eq a b).2 h2) h1
  anti := by
    intro x
    induction x with
    | nil => intro y; cases y <;> simp [lexC]
    | cons a l ih =>
      intro y
      cases y with
      | nil => simp [lexC]
      | cons b m =>
        simp only [lexC]
        by_cases h1 : c a b = 0
        · have h2 : c b a = 0 := (h.eq _ _).2 ((h.eq _ _).1 h1).symm
          rw [if_pos h1, if_pos h2, ih m]
        · have h2 : ¬ c b a = 0 := fun e => h1 ((h.eq _ _).2 ((h.eq _ _).1 e).symm)
          rw [if_neg h1, if_neg h2, h.anti a b]
  tr := by
    intro x
    induction x with
    | nil =>
      intro y z h1 h2
      cases z with
      | nil =>
        cases y with
        | nil => simp [lexC] at h1
        | cons b m => simp [lexC] at h2
      | cons d n => simp [lexC]
    | cons a l ih =>
      intro y z h1 h2
      cases y with
      | nil => simp [lexC] at h1
      | cons b m =>
        cases z with
        | nil => simp [lexC] at h2
        | cons d n =>
          simp only [lexC] at h1 h2 ⊢
          by_cases e1 : c a b = 0
          · have e := (h.eq _ _).1 e1
            rw [if_pos e1] at h1
            subst e
            by_cases e2 : c a d = 0
            · rw [if_pos e2] at h2 ⊢
              exact ih m n h1 h2
            · rw [if_neg e2] at h2 ⊢
              exact h2
          · rw [if_neg e1] at h1
            by_cases e2 : c b d = 0
            · have e := (h.eq _ _).1 e2
              subst e
              rw [if_neg e1]
              exact h1
            · rw [if_neg e2] at h2
              have h3 := h.tr _ _ _ h1 h2
              rw [if_neg (by omega)]
              exact h3
/-- the order of bytes -/
def cmpU (a b : UInt8) : Int := if a < b then -1 else if a = b then 0 else 1
theorem cmpU_tot : TotCmp cmpU where
  eq := fun x y => by
    unfold cmpU
    by_cases h : x < y
    · rw [if_pos h]
      constructor
      · intro e; cases e
      · intro e; subst e; exact absurd h (by simp)
    · rw [if_neg h]
      by_cases h2 : x = y <;> simp [h2]
  anti := fun x y => by
    unfold cmpU
    simp only [UInt8.lt_iff_toNat_lt, ← UInt8.toNat_inj]
    repeat' split
    all_goals omega
  tr := fun x y z => by
    unfold cmpU
    simp only [UInt8.lt_iff_toNat_lt, ← UInt8.toNat_inj]
    repeat' split
    all_goals omega
theorem less_lex : ∀ x y : List UInt8, Op.bytesLess x y = decide (lexC cmpU x y < 0)
  | [], [] => rfl
  | [], _ :: _ => rfl
  | _ :: _, [] => rfl
  | a :: x, b :: y => by
    simp only [Op.bytesLess, lexC]
    rw [less_lex x y]
    unfold cmpU
    by_cases h : a < b
    · simp [h]
    · by_cases h2 : a = b
      · simp [h2]
      · simp [h, h2]
/-- the order of strings -/
def cmpB (a b : ByteArray) : Int := lexC cmpU a.toList b.toList
theorem toList_inj {a b : ByteArray} (h : a.toList = b.toList) : a = b := by
  rw [Lib.toList_data, Lib.toList_data] at h
  obtain ⟨⟨x⟩⟩ := a
  obtain ⟨⟨y⟩⟩ := b
  simp only at h
  rw [h]
theorem cmpB_tot : TotCmp cmpB where
  eq := fun x y => by
    unfold cmpB
    rw [(lexC_tot cmpU_tot).eq]
    exact ⟨toList_inj, fun e => by rw [e]⟩
  anti := fun x y => (lexC_tot cmpU_tot).anti _ _
  tr := fun x y z => (lexC_tot cmpU_tot).tr _ _ _
theorem lexU_val : ∀ x y : List UInt8, lexC cmpU x y = -1 ∨ lexC cmpU x y = 0 ∨ lexC cmpU x y = 1
  | [], [] => .inr (.inl rfl)
  | [], _ :: _ => .inl rfl
  | _ :: _, [] => .inr (.inr rfl)
  | a :: x, b :: y => by
    simp only [lexC]
    have := lexU_val x y
    split
    · exact this
    · unfold cmpU
      repeat' split
      all_goals simp
/-- what cmp.Compare gives at strings -/
theorem cmpB_if (a b : ByteArray) : cmpB a b = if Op.bytesLess a.toList b.toList = true then -1 else if Op.bytesLess b.toList a.toList = true then 1 else 0 := by
  rw [less_lex, less_lex]
  simp only [decide_eq_true_eq]
  have h1 := lexU_val a.toList b.toList
  have h2 := (lexC_tot cmpU_tot).anti b.toList a.toList
  unfold cmpB
  split
  · omega
  · split
    · omega
    · omega
/-- the order of lists of strings, as slices.Compare has it -/
def cmpL (a b : List ByteArray) : Int := lexC cmpB a b
theorem cmpL_tot : TotCmp cmpL := lexC_tot cmpB_tot
end Go.Proofs.YtgdagknjnidmiaaGreatDoor
/- Cells as records; what is wrong with cells, in plain words. -/
set_option linter.unusedVariables false
namespace Go.Proofs.YtgdagknjnidmiaaGreatDoor
open Go.RowKit

theorem TotCmp.zero_flip {κ : Type} {c : κ → κ → Int} (h : TotCmp c) (x y : κ) : c x y = 0 ↔ c y x = 0 := by
  rw [h.eq, h.eq]
  exact eq_comm
theorem TotCmp.le_flip {κ : Type} {c : κ → κ → Int} (h : TotCmp c) (x y : κ) : c x y ≤ 0 ↔ 0 ≤ c y x := by
  have h1 := h.anti x y
  have h2 := h.zero_flip x y
  omega
/-- a cell; its keys: where they lie, their capacity, and what they are -/
structure Ce where
  tv : Option Addr
  tc : Nat
  keys : List ByteArray
  many : Int
  cents : Int
def Ce.cells (x : Ce) : List Value := [.slice x.tv x.keys.length x.tc, .int .i64 x.many, .int .i64 x.cents]
def Ce.ok (x : Ce) : Prop := x.keys.length ≤ 20 ∧ (∀ s ∈ x.keys, s.size ≤ 100) ∧ -100000000 ≤ x.many ∧ x.many ≤ 100000000 ∧ -100000000000000 ≤ x.cents ∧ x.cents ≤ 100000000000000
theorem Ce.len (x : Ce) : x.cells.length = 3 := rfl
/-- what the plain law sees of a cell -/
def Ce.el (x : Ce) : El (List ByteArray) := (x.keys, x.many, x.cents)
/-- the numbers of a cell are in their ranges -/
def fullB (many cents : Int) : Bool := (decide (0 ≤ many) && decide (many ≤ 1000000)) && (decide (-1000000000000 ≤ cents) && decide (cents ≤ 1000000000000))
def ceSt (b1 b2 b3 b4 : Bool) : Int := if b1 then 3 else if b2 then 5 else if b3 then 7 else if b4 = false then 1 else 0
def ceStep (l : List Ce) (i : Nat) (h : i < l.length) : Int :=
  ceSt (!decide (l[i].keys.length = (l[0]'(by omega)).keys.length) || decide (6 < l[i].keys.length)) (l[i].keys.any fun s => !keyB s) (decide (0 < i) && decide (cmpL l[i].keys (l[i - 1]'(by omega)).keys ≤ 0)) (fullB l[i].many l[i].cents)
def ceGo (l : List Ce) : Nat → Nat → Int
  | 0, _ => 0
  | f + 1, i => if h : i < l.length then if ceStep l i h = 0 then ceGo l f (i + 1) else ceStep l i h else 0
def ceE (l : List Ce) : Int := if 2000 < l.length then 2 else ceGo l l.length 0
theorem ceGo_step (l : List Ce) (k : Nat) (h : k < l.length) : ceGo l (l.length - k) k = if ceStep l k h = 0 then ceGo l (l.length - (k + 1)) (k + 1) else ceStep l k h := by
  rw [show l.length - k = (l.length - (k + 1)) + 1 by omega, ceGo, dif_pos h]
/-- what is wrong with the dimensions that are kept -/
def kpE (d : Int) (keep : List Int) : Nat → Nat → Int
  | 0, _ => 0
  | f + 1, i => if keep.getD i 0 < 0 ∨ d ≤ keep.getD i 0 then 1 else if 0 < i ∧ keep.getD i 0 ≤ keep.getD (i - 1) 0 then 7 else kpE d keep f (i + 1)
/-- a cell with the kept keys alone -/
def prE (keep : List Int) (x : El (List ByteArray)) : El (List ByteArray) := (keep.map fun k => x.1.getD k.toNat ⟨#[]⟩, x.2)
def foldL (l : List (El (List ByteArray))) (keep : List Int) : List (El (List ByteArray)) := (l.map (prE keep)).foldl (fun o x => insF cmpL x o) []
def dimE (l : List Ce) : Int := match l with
  | [] => 6
  | x :: _ => x.keys.length
/-- what is wrong with a fold -/
def fdE (l : List Ce) (keep : List Int) : Int :=
  if ceE l ≠ 0 then ceE l else if kpE (dimE l) keep keep.length 0 ≠ 0 then kpE (dimE l) keep keep.length 0 else if ((foldL (l.map Ce.el) keep).any fun x => !fullB x.2.1 x.2.2) = true then 12 else 0
end Go.Proofs.YtgdagknjnidmiaaGreatDoor
/- Insertion sort by keys: sorted, and the same elements. -/
set_option linter.unusedVariables false
namespace Go.Proofs.YtgdagknjnidmiaaGreatDoor
open Go.RowKit

/-- less, by the keys -/
def ltK {α κ : Type} (c : κ → κ → Int) (key : α → κ) (x y : α) : Bool := decide (c (key x) (key y) < 0)
theorem ltK_swo {α κ : Type} {c : κ → κ → Int} (h : TotCmp c) (key : α → κ) : Sort.SWO (ltK c key) where
  irrefl := fun x => by
    unfold ltK
    rw [h.self]
    rfl
  trans := fun x y z h1 h2 => by
    unfold ltK at *
    simp only [decide_eq_true_eq] at *
    exact h.tr _ _ _ h1 h2
  ntrans := fun x y z h1 h2 => by
    unfold ltK at *
    simp only [decide_eq_false_iff_not] at *
    intro h3
    by_cases h4 : c (key x) (key y) = 0
    · rw [(h.eq _ _).1 h4] at h3
      exact h2 h3
    · exact h2 (h.tr _ _ _ (h.flip h1 h4) h3)
def isort {α κ : Type} [Inhabited α] (c : κ → κ → Int) (key : α → κ) (l : List α) : List α := (Sort.insertionSort (ltK c key) l.toArray 0 l.length).toList
theorem isort_law {α κ : Type} [Inhabited α] {c : κ → κ → Int} (h : TotCmp c) (key : α → κ) (l : List α) : (isort c key l).Perm l ∧ (isort c key l).Pairwise (fun x y => c (key x) (key y) ≤ 0) := by
  obtain ⟨⟨h1, _, h3⟩, h4⟩ := Sort.insertionSort_holds (lt := ltK c key) (ltK_swo h key) l.toArray 0 l.length (Nat.zero_le _) (by simp)
  unfold isort
  generalize Sort.insertionSort (ltK c key) l.toArray 0 l.length = d at *
  have hs : d.size = l.length := by simpa using h1
  refine ⟨?_, ?_⟩
  · have e1 : d.extract 0 l.length = d := by rw [← hs]; simp
    have e2 : l.toArray.extract 0 l.length = l.toArray := by simp
    rw [e1, e2] at h3
    simpa using h3
  · rw [List.pairwise_iff_getElem]
    intro i j hi hj hij
    have hi' : i < d.size := by simpa using hi
    have hj' : j < d.size := by simpa using hj
    have h5 := h4 i j (Nat.zero_le _) hij (by omega)
    rw [getElem!_pos d j hj', getElem!_pos d i hi'] at h5
    unfold ltK at h5
    simp only [decide_eq_false_iff_not] at h5
    simp only [Array.getElem_toList]
    by_cases h6 : c (key d[j]) (key d[i]) = 0
    · have := (h.eq _ _).1 h6
      rw [this, h.self]
      omega
    · have := h.flip h5 h6
      omega
/-- sorted and put together: as put in one after the other -/
theorem isort_fold {κ : Type} [Inhabited κ] [DecidableEq κ] {c : κ → κ → Int} (h : TotCmp c) {α : Type} [Inhabited α] (el : α → El κ) (l : List α) : ((isort c (fun x => (el x).1) l).map el).foldl mgStep [] = (l.map el).foldl (fun o x => insF c x o) [] := by
  obtain ⟨h1, h2⟩ := isort_law h (fun x => (el x).1) l
  refine fold_same h (h1.map el) ?_
  rw [List.pairwise_map]
  exact h2
end Go.Proofs.YtgdagknjnidmiaaGreatDoor
/- Folding cells, in plain words: the cells that are put together keep their own places; bounds of sums. -/
set_option linter.unusedVariables false
namespace Go.Proofs.YtgdagknjnidmiaaGreatDoor
open Go.RowKit

instance : Inhabited Ce := ⟨⟨none, 0, [], 0, 0⟩⟩
/-- a cell behind what is there: added to the last where that has its keys -/
def mgC (o : List Ce) (x : Ce) : List Ce :=
  match o.getLast? with
  | some y => if y.keys = x.keys then o.dropLast ++ [{ y with many := y.many + x.many, cents := y.cents + x.cents }] else o ++ [x]
  | none => [x]
theorem mgC_el (o : List Ce) (x : Ce) : (mgC o x).map Ce.el = mgStep (o.map Ce.el) x.el := by
  rcases List.eq_nil_or_concat o with rfl | ⟨a, y, rfl⟩
  · rfl
  · unfold mgC mgStep
    simp only [List.concat_eq_append, List.map_append, List.map_cons, List.map_nil, List.getLast?_append, List.getLast?_singleton, Option.some_or, List.dropLast_concat]
    by_cases h : y.keys = x.keys
    · rw [if_pos h, if_pos (show y.el.1 = x.el.1 from h)]
      simp [Ce.el, addE]
    · rw [if_neg h, if_neg (show ¬ y.el.1 = x.el.1 from h)]
      simp
theorem mgC_fold : ∀ (l o : List Ce), (l.foldl mgC o).map Ce.el = (l.map Ce.el).foldl mgStep (o.map Ce.el)
  | [], _ => rfl
  | x :: r, o => by
    simp only [List.foldl_cons, List.map_cons]
    rw [mgC_fold r (mgC o x), mgC_el]
/-- the program's fold of the cells with the kept keys alone -/
theorem ce_fold (l : List Ce) (all : List Ce) (keep : List Int) (h : all.map Ce.el = (l.map Ce.el).map (prE keep)) : ((isort cmpL (fun x : Ce => x.el.1) all).foldl mgC []).map Ce.el = foldL (l.map Ce.el) keep := by
  rw [mgC_fold, List.map_nil, isort_fold cmpL_tot Ce.el all, h]
  rfl
/-- sums of at most n cells -/
def bndE (n : Nat) (x : El (List ByteArray)) : Prop := 0 ≤ x.2.1 ∧ x.2.1 ≤ 1000000 * (n : Int) ∧ -(1000000000000 * (n : Int)) ≤ x.2.2 ∧ x.2.2 ≤ 1000000000000 * (n : Int)
theorem bndE_mono {n m : Nat} {x : El (List ByteArray)} (h : bndE n x) (hm : n ≤ m) : bndE m x := by
  unfold bndE at *
  omega
theorem bndE_add {n : Nat} {x y : El (List ByteArray)} (h : bndE n y) (hx : bndE 1 x) : bndE (n + 1) (addE y x) := by
  unfold bndE addE at *
  simp only
  omega
theorem insF_bnd {n : Nat} (x : El (List ByteArray)) (hx : bndE 1 x) (hn : 0 < n + 1) : ∀ o : List (El (List ByteArray)), (∀ y ∈ o, bndE n y) → ∀ y ∈ insF cmpL x o, bndE (n + 1) y
  | [], _, y, hy => by
    simp [insF] at hy
    subst hy
    exact bndE_mono hx (by omega)
  | z :: r, h, y, hy => by
    simp only [insF] at hy
    split at hy
    · rcases List.mem_cons.1 hy with rfl | hy
      · exact bndE_mono (h y (by simp)) (by omega)
      · exact insF_bnd x hx hn r (fun w hw => h w (by simp [hw])) y hy
    · split at hy
      · rcases List.mem_cons.1 hy with rfl | hy
        · exact bndE_add (h z (by simp)) hx
        · exact bndE_mono (h y (by simp [hy])) (by omega)
      · rcases List.mem_cons.1 hy with rfl | hy
        · exact bndE_mono hx (by omega)
        · exact bndE_mono (h y hy) (by omega)
theorem fold_bnd : ∀ (l o : List (El (List ByteArray))) (n : Nat), (∀ x ∈ l, bndE 1 x) → (∀ y ∈ o, bndE n y) → ∀ y ∈ l.foldl (fun o x => insF cmpL x o) o, bndE (n + l.length) y
  | [], _, _, _, h => h
  | x :: r, o, n, hl, h => by
    intro y hy
    have := fold_bnd r (insF cmpL x o) (n + 1) (fun z hz => hl z (by simp [hz])) (insF_bnd x (hl x (by simp)) (by omega) o h) y hy
    rw [List.length_cons]
    rw [show n + (r.length + 1) = n + 1 + r.length by omega]
    exact this
theorem mgC_bnd {n : Nat} {o : List Ce} {x : Ce} (h : ∀ y ∈ o, bndE n y.el) (hx : bndE 1 x.el) : ∀ y ∈ mgC o x, bndE (n + 1) y.el := by
  rcases List.eq_nil_or_concat o with rfl | ⟨a, z, rfl⟩
  · intro y hy
    simp [mgC] at hy
    subst hy
    exact bndE_mono hx (by omega)
  · unfold mgC
    simp only [List.concat_eq_append, List.getLast?_append, List.getLast?_singleton, Option.some_or, List.dropLast_concat]
    intro y hy
    split at hy
    · rcases List.mem_append.1 hy with hy | hy
      · exact bndE_mono (h y (by simp [hy])) (by omega)
      · simp only [List.mem_singleton] at hy
        subst hy
        exact bndE_add (h z (by simp)) hx
    · rcases List.mem_append.1 hy with hy | hy
      · exact bndE_mono (h y (by simpa using hy)) (by omega)
      · simp only [List.mem_singleton] at hy
        subst hy
        exact bndE_mono hx (by omega)
theorem fullB_bnd {x : El (List ByteArray)} (h : fullB x.2.1 x.2.2 = true) : bndE 1 x := by
  unfold fullB at h
  simp only [Bool.and_eq_true, decide_eq_true_eq] at h
  unfold bndE
  omega
section
variable {κ : Type} {c : κ → κ → Int}
theorem plF_eq (k : κ) : ∀ (l : List (El κ)) (i : Nat), i ≤ l.length → (∀ t (h : t < l.length), t < i → c l[t].1 k < 0) → (∀ h : i < l.length, ¬ c l[i].1 k < 0) → plF c k l = i
  | [], i, hi, _, _ => by simp at hi; simp [plF, hi]
  | y :: r, 0, _, _, h2 => by
    have := h2 (by simp)
    simp only [plF]
    rw [if_neg (by simpa using this)]
  | y :: r, i + 1, hi, h1, h2 => by
    have h0 := h1 0 (by simp) (by omega)
    simp only [plF]
    rw [if_pos (by simpa using h0), plF_eq k r i (by simpa using hi) (fun t h ht => h1 (t + 1) (by simpa using h) (by omega)) (fun h => h2 (by simpa using h))]
/-- what a search by halves keeps: below i less, from j on not less -/
theorem half_lo (h : TotCmp c) {l : List (El κ)} (hs : l.Pairwise fun y z => c y.1 z.1 < 0) {k : κ} {m : Nat} (hm : m < l.length) (hc : c l[m].1 k < 0) : ∀ t (ht : t < l.length), t < m + 1 → c l[t].1 k < 0 := by
  intro t ht htm
  by_cases e : t = m
  · subst e; exact hc
  · exact h.tr _ _ _ (List.pairwise_iff_getElem.1 hs t m ht hm (by omega)) hc
theorem half_hi (h : TotCmp c) {l : List (El κ)} (hs : l.Pairwise fun y z => c y.1 z.1 < 0) {k : κ} {m : Nat} (hm : m < l.length) (hc : ¬ c l[m].1 k < 0) : ∀ t (ht : t < l.length), m ≤ t → ¬ c l[t].1 k < 0 := by
  intro t ht htm h2
  by_cases e : m = t
  · subst e; exact hc h2
  · exact hc (h.tr _ _ _ (List.pairwise_iff_getElem.1 hs m t hm ht (by omega)) h2)
end
/-- one step of the reference: the place is looked up, a cell of zeros put there where there is none, and the numbers added -/
def rfC (o : List Ce) (i : Nat) (x : Ce) : List Ce :=
  if i < o.length ∧ cmpL (o.getD i x).keys x.keys = 0 then o.set i { o.getD i x with many := (o.getD i x).many + x.many, cents := (o.getD i x).cents + x.cents } else o.take i ++ x :: o.drop i
theorem rfC_el (o : List Ce) (x : Ce) (i : Nat) (hi : plF cmpL x.keys (o.map Ce.el) = i) : (rfC o i x).map Ce.el = insF cmpL x.el (o.map Ce.el) := by
  have hi' : plF cmpL x.el.1 (o.map Ce.el) = i := hi
  obtain ⟨h1, h2⟩ := insF_at (c := cmpL) x.el (o.map Ce.el)
  simp only [hi'] at h1 h2
  unfold rfC
  by_cases h : i < o.length ∧ cmpL (o.getD i x).keys x.keys = 0
  · rw [if_pos h]
    have hg : o.getD i x = o[i]'h.1 := by simp [h.1]
    have := h1 (by simpa using h.1) (by
      have := h.2
      rw [hg] at this
      simpa [Ce.el] using this)
    rw [this, List.map_set]
    congr 1
    simp [Ce.el, addE, h.1]
  · rw [if_neg h]
    have := h2 (fun h3 h4 => h ⟨by simpa using h3, by
      have h5 : i < o.length := by simpa using h3
      have hg : o.getD i x = o[i] := by simp [h5]
      rw [hg]
      simpa [Ce.el] using h4⟩)
    rw [this]
    simp [List.map_take, List.map_drop]
end Go.Proofs.YtgdagknjnidmiaaGreatDoor
/- The keys of a map by strings, sorted; lists that are told by their sorted keys. -/
set_option linter.unusedVariables false
namespace Go.Proofs.YtgdagknjnidmiaaGreatDoor
open Go.RowKit Go.Maps Go.Sort

theorem lexU_lt : ∀ x y : List UInt8, lexC cmpU x y < 0 ↔ x < y
  | [], [] => by simp [lexC]
  | [], b :: y => by simp [lexC]
  | a :: x, [] => by simp [lexC]
  | a :: x, b :: y => by
    have ih := lexU_lt x y
    rw [List.cons_lt_cons_iff]
    simp only [lexC]
    by_cases h1 : a < b
    · have hc : cmpU a b = -1 := by unfold cmpU; rw [if_pos h1]
      rw [hc]
      simp [h1]
    · by_cases h2 : a = b
      · subst h2
        rw [if_pos ((cmpU_tot.eq a a).2 rfl), ih]
        simp
      · have hc : cmpU a b = 1 := by unfold cmpU; rw [if_neg h1, if_neg h2]
        rw [hc]
        simp [h1, h2]
theorem lexU_le (x y : List UInt8) : lexC cmpU x y ≤ 0 ↔ x ≤ y := by
  have h := (lexC_tot cmpU_tot).anti y x
  rw [lexU_lt] at h
  rw [← List.not_lt, h]
  omega
theorem cmpB_le (a b : ByteArray) : cmpB a b ≤ 0 ↔ a.data.toList ≤ b.data.toList := by
  unfold cmpB
  rw [Lib.toList_data, Lib.toList_data]
  exact lexU_le _ _
/-- strings, sorted -/
def ordK (ks : List ByteArray) : List ByteArray := ((ks.map fun s => s.data.toList).mergeSort leB).map fun x => ⟨⟨x⟩⟩
theorem ordK_perm (ks : List ByteArray) : (ordK ks).Perm ks := by
  unfold ordK
  have h := (List.mergeSort_perm (ks.map fun s => s.data.toList) leB).map (fun x : List UInt8 => (⟨⟨x⟩⟩ : ByteArray))
  rw [List.map_map] at h
  have e : ((fun x : List UInt8 => (⟨⟨x⟩⟩ : ByteArray)) ∘ fun s : ByteArray => s.data.toList) = id := by
    funext s
    cases s with
    | mk d => cases d; rfl
  rw [e, List.map_id] at h
  exact h
theorem ordK_sorted (ks : List ByteArray) : (ordK ks).Pairwise fun a b => cmpB a b ≤ 0 := by
  unfold ordK
  rw [List.pairwise_map]
  have tr : ∀ a b c : List UInt8, leB a b = true → leB b c = true → leB a c = true := fun a b c h1 h2 => by simp only [leB, decide_eq_true_eq] at *; exact List.le_trans h1 h2
  have tt9 : ∀ a b : List UInt8, (leB a b || leB b a) = true := fun a b => by simp only [leB, Bool.or_eq_true, decide_eq_true_eq]; exact List.le_total a b
  refine (List.pairwise_mergeSort tr tt9 _).imp fun {a b} h => ?_
  rw [cmpB_le]
  simpa [leB] using h
theorem ordK_row (ks : List ByteArray) {ss : List (List UInt8)} (h : ss.Perm (ks.map fun s => s.data.toList)) : (ss.mergeSort leB).map encStr = (ordK ks).map Value.string := by
  rw [mergeSort_of_perm h]
  unfold ordK
  rw [List.map_map]
  rfl
/-- a map's keys -/
theorem vm_perm {w : World} {b n : Nat} {D : DataW Value} {ks : List ByteArray} (hown : w.ownsMap Tryz.prog 9 heldElem b n D) (hat : ∀ s : ByteArray, Maps.has D (.string s.data.toList) = hasS ks s) (hnd : ks.Nodup) : (ks.map fun s => s.data.toList).Perm (strKeys D) := by
  refine Collected.perm (left := fun _ => false) ⟨?_, fun x => ?_⟩ hown key_str Tryz.underlying9 fun _ => rfl
  · rw [List.Nodup, List.pairwise_map]
    exact hnd.imp fun {a b} h e => h (sameS_eq.1 (decide_eq_true e))
  · have h := hat ⟨⟨x⟩⟩
    rw [show ((⟨⟨x⟩⟩ : ByteArray).data.toList) = x from rfl] at h
    rw [h]
    simp only [and_true]
    rw [List.mem_map, hasS_mem]
    constructor
    · rintro ⟨s, hs, rfl⟩
      exact hs
    · intro hs
      exact ⟨_, hs, rfl⟩
theorem vm_size {w : World} {b n : Nat} {D : DataW Value} {ks : List ByteArray} (hown : w.ownsMap Tryz.prog 9 heldElem b n D) (hat : ∀ s : ByteArray, Maps.has D (.string s.data.toList) = hasS ks s) (hnd : ks.Nodup) : Maps.size D = ks.length := by
  have h := (vm_perm hown hat hnd).length_eq
  obtain ⟨es, rfl, _⟩ := hown.keysOf
  rw [List.length_map] at h
  rw [h]
  show es.length = (es.map fun p => strOf p.1).length
  rw [List.length_map]
/-- a letter's credit -/
structure Cdt where
  letter : ByteArray
  cents : Nat
  gains : Nat
def Cdt.cells (x : Cdt) : List Value := [.string x.letter, .int .i64 (x.gains : Int), .int .i64 (x.cents : Int)]
theorem Cdt.len (x : Cdt) : x.cells.length = 3 := rfl
instance : Inhabited Cdt := ⟨⟨⟨#[]⟩, 0, 0⟩⟩
def Crd.at_ (c : Crd) (s : ByteArray) : Cdt := ⟨s, c.ce s, c.ga s⟩
/-- the answer: the letters in order -/
def crL (c : Crd) : List Cdt := (ordK c.keys).map c.at_
/-- one kept list, sorted, is another's, told in order -/
theorem crL_same {o r : Crd} (h : CrJ o r) (m : List Cdt) (hm : m.Perm ((r.keys.filter fun s => decide (0 < r.ga s)).map r.at_)) : isort cmpB Cdt.letter m = crL o := by
  obtain ⟨h1, h2⟩ := isort_law cmpB_tot Cdt.letter m
  have e1 : r.at_ = o.at_ := by
    funext s
    unfold Crd.at_
    rw [h.ce, h.ga]
  have hp : ((r.keys.filter fun s => decide (0 < r.ga s))).Perm o.keys := by
    refine (List.perm_ext_iff_of_nodup (h.nr.filter _) h.no).2 fun s => ?_
    rw [List.mem_filter, decide_eq_true_eq, h.ko s, h.ga]
    exact ⟨fun e => e.2, fun e => ⟨h.kr s ((h.ko s).2 (by rw [h.ga]; exact e)), e⟩⟩
  have hq : (isort cmpB Cdt.letter m).Perm (crL o) := by
    refine h1.trans (hm.trans ?_)
    rw [e1]
    exact (hp.trans (ordK_perm o.keys).symm).map _
  have h3 : (crL o).Pairwise (fun x y => cmpB x.letter y.letter ≤ 0) := by
    unfold crL
    rw [List.pairwise_map]
    exact ordK_sorted o.keys
  refine List.Perm.eq_of_pairwise (le := fun x y => cmpB x.letter y.letter ≤ 0) (fun a b ha hb h4 h5 => ?_) h2 h3 hq
  have h6 := cmpB_tot.anti b.letter a.letter
  have h7 : cmpB a.letter b.letter = 0 := by
    have := cmpB_tot.anti a.letter b.letter
    omega
  have h8 := (cmpB_tot.eq _ _).1 h7
  have ha' := hq.mem_iff.1 ha
  unfold crL at ha' hb
  obtain ⟨s, _, rfl⟩ := List.mem_map.1 ha'
  obtain ⟨t, _, rfl⟩ := List.mem_map.1 hb
  have : s = t := h8
  rw [this]
end Go.Proofs.YtgdagknjnidmiaaGreatDoor
/- A map of one's own from strings to credits, each in a block of its own. -/
set_option linter.unusedVariables false
namespace Go.Proofs.YtgdagknjnidmiaaGreatDoor
open Go.RowKit Go.Maps

theorem row_below {w w' : World} {b0 C n : Nat} {t : TypeId} {v : Value} {xs : List Value} (own : w.ownsRow b0 t C v n xs) (hb : Below w.heap.size w w') : w'.ownsRow b0 t C v n xs := by
  refine own.kept (grown_of_below hb none) ?_
  cases v.ownBlock with
  | none => exact .inl rfl
  | some q => exact .inr (by simp)
theorem row_grown {w w' : World} {b0 C n : Nat} {t : TypeId} {v : Value} {xs : List Value} {row : Option Nat} (own : w.ownsRow b0 t C v n xs) (hb : w.grownBy w' row) (h : ∀ g, v.ownBlock = some g → row ≠ some g) : w'.ownsRow b0 t C v n xs := by
  refine own.kept hb ?_
  cases hv : v.ownBlock with
  | none => exact .inl rfl
  | some g => exact .inr (fun e => h g hv e.symm)
theorem row_shape {w : World} {b0 C n : Nat} {t : TypeId} {v : Value} {xs : List Value} (own : w.ownsRow b0 t C v n xs) : ∃ a c, v = .slice a n c ∧ n ≤ c ∧ c ≤ maxLen := by
  rcases own.2 with ⟨e, h0⟩ | ⟨g, cap, cur, e, _, _, h1, h2, _⟩
  · exact ⟨none, 0, by rw [e, h0], by omega, Nat.zero_le _⟩
  · exact ⟨_, _, e, h1, h2⟩
/-- what stands at the keys: pointers -/
def ptF (ks : List ByteArray) (blk : ByteArray → Nat) : ByteArray → Value := fun s => if hasS ks s = true then .pointer (some ⟨blk s, 0, none⟩) else .pointer none
/-- block b is a map of credits; each lies in block blk s; all of them at lo or behind -/
structure CrO (w : World) (b n lo : Nat) (c : Crd) (blk : ByteArray → Nat) : Prop where
  map : VM w (.pointer none) b n c.keys (ptF c.keys blk)
  box : ∀ s, s ∈ c.keys → OB w (blk s) [.string s, .int .i64 (c.ga s : Int), .int .i64 (c.ce s : Int)] 58
  lo_ : ∀ s, s ∈ c.keys → lo ≤ blk s
  ne : ∀ s, s ∈ c.keys → blk s ≠ b
  inj : ∀ s t, s ∈ c.keys → t ∈ c.keys → blk s = blk t → s = t
  lob : lo ≤ b
  z : ∀ s, s ∉ c.keys → c.ce s = 0 ∧ c.ga s = 0
theorem cr_set {w : World} {q i : Nat} (v : Value) : w.grownBy (w.setCell ⟨q, i, none⟩ v) (some q) := ⟨rfl, rfl, rfl, by simp [World.setCell], fun j _ hne => Below.heap_setCell w _ _ j (by rintro rfl; exact hne rfl)⟩
section
variable {w w' w2 : World} {b n lo q : Nat} {c : Crd} {blk : ByteArray → Nat} {s : ByteArray}
theorem CrO.made (w : World) {lo : Nat} (h : lo ≤ w.heap.size) : CrO (w.alloc (.map #[] 0)) w.heap.size 0 lo ⟨[], fun _ => 0, fun _ => 0⟩ (fun _ => 0) :=
  ⟨VM.made w _, fun s hs => by simp at hs, fun s hs => by simp at hs, fun s hs => by simp at hs, fun s t hs => by simp at hs, h, fun _ _ => ⟨rfl, rfl⟩⟩
theorem CrO.below (h : CrO w b n lo c blk) (hb : Below w.heap.size w w') : CrO w' b n lo c blk :=
  ⟨h.map.below hb, fun s hs => (h.box s hs).below hb, h.lo_, h.ne, h.inj, h.lob, h.z⟩
theorem CrO.grown {row : Option Nat} (h : CrO w b n lo c blk) (k : w.grownBy w' row) (h1 : row ≠ some b) (h2 : ∀ s, s ∈ c.keys → row ≠ some (blk s)) : CrO w' b n lo c blk :=
  ⟨h.map.kept k (fun e => h1 e.symm), fun s hs => (h.box s hs).grown k (h2 s hs), h.lo_, h.ne, h.inj, h.lob, h.z⟩
theorem CrO.yes (hs : hasS c.keys s = true) : ptF c.keys blk s = .pointer (some ⟨blk s, 0, none⟩) := if_pos hs
theorem CrO.no (hs : hasS c.keys s = false) : ptF c.keys blk s = .pointer none := if_neg (by rw [hs]; decide)
theorem CrO.new (h : CrO w b n lo c blk) (hs : hasS c.keys s = false) (hq : w.heap.size = q) (hlo : lo ≤ q)
    (hv : VM w2 (.pointer none) b (n + 1) (addK c.keys s) (putV (ptF c.keys blk) s (.pointer (some ⟨q, 0, none⟩)))) (k : (w.alloc (.cells #[.string s, .int .i64 0, .int .i64 0] 58)).grownBy w2 (some b)) :
    CrO w2 b (n + 1) lo ⟨addK c.keys s, c.ce, c.ga⟩ (fun x => if sameS s x = true then q else blk x) := by
  have hbl := h.map.lt
  have hns : s ∉ c.keys := fun e => by rw [hasS_mem.2 e] at hs; cases hs
  obtain ⟨z1, z2⟩ := h.z s hns
  have hnew : ∀ x, x ∈ c.keys → ¬ sameS s x = true := fun x hx e => hns (by rw [sameS_eq.1 e]; exact hx)
  have hlt : ∀ x, x ∈ c.keys → blk x ≠ q := fun x hx e => by have := (h.box x hx).lt; omega
  refine ⟨?_, fun x hx => ?_, fun x hx => ?_, fun x hx => ?_, fun x y hx hy e => ?_, h.lob, fun x hx => h.z x fun e => hx (addK_mem.2 (Or.inl e))⟩
  · have e : putV (ptF c.keys blk) s (.pointer (some ⟨q, 0, none⟩)) = ptF (addK c.keys s) (fun x => if sameS s x = true then q else blk x) := by
      funext x
      unfold putV ptF
      rw [hasS_addK]
      by_cases e : sameS s x = true
      · simp [e]
      · have e' : sameS s x = false := by simpa using e
        simp [e']
    rw [← e]
    exact hv
  · rcases addK_mem.1 hx with hx | rfl
    · rw [if_neg (hnew x hx)]
      exact ((h.box x hx).alloc _).grown k (fun e => h.ne x hx (Option.some.inj e).symm)
    · rw [if_pos (sameS_eq.2 rfl)]
      show OB w2 q [.string x, .int .i64 (c.ga x : Int), .int .i64 (c.ce x : Int)] _
      rw [z1, z2, ← hq]
      exact (OB.new w [.string x, .int .i64 0, .int .i64 0] 58).grown k (fun e => by have := Option.some.inj e; omega)
  · rcases addK_mem.1 hx with hx | rfl
    · rw [if_neg (hnew x hx)]; exact h.lo_ x hx
    · rw [if_pos (sameS_eq.2 rfl)]; exact hlo
  · rcases addK_mem.1 hx with hx | rfl
    · rw [if_neg (hnew x hx)]; exact h.ne x hx
    · rw [if_pos (sameS_eq.2 rfl)]; omega
  · rcases addK_mem.1 hx with hx1 | hx1 <;> rcases addK_mem.1 hy with hy1 | hy1
    · rw [if_neg (hnew x hx1), if_neg (hnew y hy1)] at e
      exact h.inj x y hx1 hy1 e
    · rw [if_neg (hnew x hx1), if_pos (sameS_eq.2 hy1.symm)] at e
      exact absurd e (hlt x hx1)
    · rw [if_neg (hnew y hy1), if_pos (sameS_eq.2 hx1.symm)] at e
      exact absurd e.symm (hlt y hy1)
    · exact hx1.trans hy1.symm
theorem CrO.add (h : CrO w b n lo c blk) (hs : s ∈ c.keys) (m : Nat) : CrO (w.setCell ⟨blk s, 2, none⟩ (.int .i64 ((c.ce s + m : Nat) : Int))) b n lo ⟨c.keys, upF c.ce s m, c.ga⟩ blk := by
  refine ⟨h.map.kept (cr_set _) (fun e => h.ne s hs (Option.some.inj e).symm), fun x hx => ?_, h.lo_, h.ne, h.inj, h.lob, fun x hx => ?_⟩
  · by_cases e : s = x
    · subst e
      show OB _ (blk s) [.string s, .int .i64 (c.ga s : Int), .int .i64 (upF c.ce s m s : Int)] _
      rw [upF_same]
      exact (h.box s hs).put 2 _ rfl
    · show OB _ (blk x) [.string x, .int .i64 (c.ga x : Int), .int .i64 (upF c.ce s m x : Int)] _
      rw [upF_other _ _ e]
      exact (h.box x hx).grown (cr_set _) (fun e' => e (h.inj s x hs hx (Option.some.inj e')))
  · have e : s ≠ x := fun e => hx (by subst e; exact hs)
    show upF c.ce s m x = 0 ∧ c.ga x = 0
    rw [upF_other _ _ e]
    exact h.z x hx
theorem CrO.cnt (h : CrO w b n lo c blk) (hs : s ∈ c.keys) : CrO (w.setCell ⟨blk s, 1, none⟩ (.int .i64 ((c.ga s + 1 : Nat) : Int))) b n lo ⟨c.keys, c.ce, upF c.ga s 1⟩ blk := by
  refine ⟨h.map.kept (cr_set _) (fun e => h.ne s hs (Option.some.inj e).symm), fun x hx => ?_, h.lo_, h.ne, h.inj, h.lob, fun x hx => ?_⟩
  · by_cases e : s = x
    · subst e
      show OB _ (blk s) [.string s, .int .i64 (upF c.ga s 1 s : Int), .int .i64 (c.ce s : Int)] _
      rw [upF_same]
      exact (h.box s hs).put 1 _ rfl
    · show OB _ (blk x) [.string x, .int .i64 (upF c.ga s 1 x : Int), .int .i64 (c.ce x : Int)] _
      rw [upF_other _ _ e]
      exact (h.box x hx).grown (cr_set _) (fun e' => e (h.inj s x hs hx (Option.some.inj e')))
  · have e : s ≠ x := fun e => hx (by subst e; exact hs)
    show c.ce x = 0 ∧ upF c.ga s 1 x = 0
    rw [upF_other _ _ e]
    exact h.z x hx
end
/-- bounds -/
def cU : Nat := 2000000000000
def CrB (c : Crd) (M : Nat) : Prop := ∀ s, c.ce s ≤ M * cU ∧ c.ga s ≤ M
theorem CrB.nil : CrB ⟨[], fun _ => 0, fun _ => 0⟩ 0 := fun s => ⟨Nat.zero_le _, Nat.zero_le _⟩
theorem CrB.mono {c : Crd} {M N : Nat} (h : CrB c M) (hMN : M ≤ N) : CrB c N := fun s => ⟨Nat.le_trans (h s).1 (Nat.mul_le_mul_right _ hMN), Nat.le_trans (h s).2 hMN⟩
theorem CrB.ups {c : Crd} {M : Nat} (h : CrB c M) (ks : List ByteArray) (s : ByteArray) (m : Nat) (hm : m ≤ cU) (g : Bool) : CrB ⟨ks, upF c.ce s m, if g = true then c.ga else upF c.ga s 1⟩ (M + 1) := fun x => by
  obtain ⟨h1, h2⟩ := h x
  refine ⟨?_, ?_⟩
  · show upF c.ce s m x ≤ (M + 1) * cU
    rw [Nat.succ_mul]
    unfold upF
    split
    · exact Nat.add_le_add h1 hm
    · exact Nat.le_trans h1 (Nat.le_add_right _ _)
  · show (if g = true then c.ga else upF c.ga s 1) x ≤ M + 1
    split
    · exact Nat.le_succ_of_le h2
    · unfold upF
      split
      · exact Nat.add_le_add h2 (Nat.le_refl 1)
      · exact Nat.le_succ_of_le h2
theorem CrB.stepO {q : CrQ} {M : Nat} (h : CrB q.c M) (p : ByteArray × Nat × Nat) (hp : p.2.1 ≤ cU) : CrB (crO q p).c (M + 1) := by
  unfold crO
  split
  · exact h.mono (Nat.le_succ _)
  · exact h.ups _ _ _ hp (hasS q.seen p.1)
theorem CrB.foldO : ∀ (l : List (ByteArray × Nat × Nat)) (q : CrQ) (M : Nat), CrB q.c M → (∀ p ∈ l, p.2.1 ≤ cU) → CrB (l.foldl crO q).c (M + l.length)
  | [], q, M, h, _ => h
  | p :: l, q, M, h, hp => by
    have := CrB.foldO l (crO q p) (M + 1) (h.stepO p (hp p (by simp))) fun r hr => hp r (by simp [hr])
    rw [List.length_cons, show M + (l.length + 1) = M + 1 + l.length by omega]
    exact this
end Go.Proofs.YtgdagknjnidmiaaGreatDoor
/- What gains give to letters, all of it, as plain lists. -/
set_option linter.unusedVariables false
namespace Go.Proofs.YtgdagknjnidmiaaGreatDoor
open Go.RowKit Deal

theorem gainGo_bd : ∀ (l pre : List Gn), gainGo pre l = 0 → ∀ x ∈ l, momB x.at_ = true ∧ centB x.cents = true
  | [], _, _, x, hx => by cases hx
  | y :: r, pre, h, x, hx => by
    rw [gainGo] at h
    split at h
    · rename_i h0
      rcases List.mem_cons.1 hx with rfl | hx
      · unfold gstepE gE at h0
        constructor
        · cases hm : momB x.at_
          · rw [hm] at h0
            repeat (split at h0 <;> try cases h0)
            all_goals simp_all
          · rfl
        · cases hm : centB x.cents
          · rw [hm] at h0
            repeat (split at h0 <;> try cases h0)
            all_goals simp_all
          · rfl
      · exact gainGo_bd r _ h x hx
    · contradiction
theorem gainE_bd {gs : List Gn} (h : gainE gs = 0) : ∀ g ∈ gs, (0 ≤ g.at_ ∧ g.at_ ≤ 4321439) ∧ 0 ≤ g.cents ∧ g.cents ≤ 1000000000000 := fun g hg => by
  obtain ⟨h1, h2⟩ := gainGo_bd gs [] h g hg
  exact ⟨mom_bd h1, of_decide_eq_true h2⟩
def atE (l : List Snt) (gs : List Gn) (how span : Int) : Int := if sentE l ≠ 0 then sentE l else if gainE gs ≠ 0 then gainE gs else if how < 1 ∨ 6 < how then 4 else if span < 1 ∨ 4321440 < span then 1 else 0
def atN (l : List Snt) (gs : List Gn) (how span : Int) : Int := if atE l gs how span = 0 then noneN l span gs gs.length else 0
def atL (l : List Snt) (gs : List Gn) (how span : Int) : List Cdt := if atE l gs how span = 0 then crL (gainsO l how span gs gs.length) else []
theorem partsL_bd {l : List Snt} {C : Nat} {q ws : List Nat} {k : Nat} (hC : C ≤ 1000000000000) (hS : 0 < ws.sum) (hk : k ≤ ws.length) : ∀ p ∈ partsL l C q ws k, p.2.1 ≤ cU := by
  intro p hp
  unfold partsL at hp
  obtain ⟨j, hj, rfl⟩ := List.mem_map.1 hp
  have hj := List.mem_range.1 hj
  have h1 : partN C ws j ≤ C + 1 := by
    have := qN_le C ws j (by omega) hS
    unfold partN
    split <;> omega
  exact Nat.le_trans h1 (by unfold cU; omega)
theorem gainO_bd {l : List Snt} {how span : Int} {o : Crd} {g : Gn} {M : Nat} (h : CrB o M) (h1 : 1 ≤ how) (h2 : how ≤ 6) (hg : g.cents ≤ 1000000000000) : CrB (gainO l how span o g) (M + 12) := by
  rcases Nat.eq_zero_or_pos (pathN (pathP g span) l).length with h0 | h0
  · rw [(gain_nil h0).1]
    exact h.mono (by omega)
  · unfold gainO crOs
    have hl : (agL l g (pathN (pathP g span) l)).length = (pathN (pathP g span) l).length := agL_len _ _ _
    have h3 := CrB.foldO (partsL l g.cents.toNat (pathN (pathP g span) l) (wsN how span (agL l g (pathN (pathP g span) l))) (pathN (pathP g span) l).length) ⟨o, []⟩ M h (partsL_bd (by omega) (wsN_pos how span _ h1 h2 (by rw [hl]; exact h0)) (by rw [wsN_len, hl]; exact Nat.le_refl _))
    refine h3.mono ?_
    have : (partsL l g.cents.toNat (pathN (pathP g span) l) (wsN how span (agL l g (pathN (pathP g span) l))) (pathN (pathP g span) l).length).length = (pathN (pathP g span) l).length := by unfold partsL; simp
    rw [this]
    have := pathN_len (pathP g span) l
    omega
theorem gainsO_bd (l : List Snt) (how span : Int) (gs : List Gn) (h1 : 1 ≤ how) (h2 : how ≤ 6) (hg : ∀ g ∈ gs, g.cents ≤ 1000000000000) : ∀ k, k ≤ gs.length → CrB (gainsO l how span gs k) (12 * k)
  | 0, _ => CrB.nil
  | k + 1, hk => by
    rw [gainsO_succ _ _ _ _ _ (by omega)]
    exact (gainO_bd (gainsO_bd l how span gs h1 h2 hg k (by omega)) h1 h2 (hg _ (List.getElem_mem _))).mono (by omega)
theorem noneN_bd (l : List Snt) (span : Int) (gs : List Gn) (hg : ∀ g ∈ gs, 0 ≤ g.cents ∧ g.cents ≤ 1000000000000) : ∀ k, k ≤ gs.length → 0 ≤ noneN l span gs k ∧ noneN l span gs k ≤ k * 1000000000000
  | 0, _ => ⟨Int.le_refl 0, by simp [noneN]⟩
  | k + 1, hk => by
    have ih := noneN_bd l span gs hg k (by omega)
    rw [noneN_succ _ _ _ _ (by omega)]
    have := hg gs[k] (List.getElem_mem _)
    split <;> omega
/-- how many letters there are at most -/
theorem gainsO_keys (l : List Snt) (how span : Int) (gs : List Gn) (P : ByteArray → Prop) (hl : ∀ x ∈ l, P x.letter) : ∀ k, k ≤ gs.length → ∀ s ∈ (gainsO l how span gs k).keys, P s
  | 0, _, s, hs => by cases hs
  | k + 1, hk, s, hs => by
    rw [gainsO_succ _ _ _ _ _ (by omega)] at hs
    have ih := gainsO_keys l how span gs P hl k (by omega)
    have hpl : ∀ p ∈ partsL l gs[k].cents.toNat (pathN (pathP gs[k] span) l) (wsN how span (agL l gs[k] (pathN (pathP gs[k] span) l))) (pathN (pathP gs[k] span) l).length, P p.1 := by
      intro p hp
      unfold partsL at hp
      obtain ⟨j, hj, rfl⟩ := List.mem_map.1 hp
      have hj := List.mem_range.1 hj
      have hm := List.getElem_mem hj
      obtain ⟨hi, -⟩ := pathN_at hm
      simp only [List.getD_eq_getElem?_getD, List.getElem?_eq_getElem hj, Option.getD_some, List.getElem?_eq_getElem hi]
      exact hl _ (List.getElem_mem hi)
    have fold : ∀ (ps : List (ByteArray × Nat × Nat)) (q : CrQ), (∀ p ∈ ps, P p.1) → (∀ s ∈ q.c.keys, P s) → ∀ s ∈ (ps.foldl crO q).c.keys, P s := by
      intro ps
      induction ps with
      | nil => intro q _ h; exact h
      | cons p ps ih2 =>
        intro q h1 h2
        refine ih2 (crO q p) (fun r hr => h1 r (by simp [hr])) fun s hs => ?_
        unfold crO at hs
        split at hs
        · exact h2 s hs
        · rcases addK_mem.1 hs with hs | rfl
          · exact h2 s hs
          · exact h1 p (by simp)
    exact fold _ ⟨gainsO l how span gs k, []⟩ hpl ih s hs
theorem addK_len (ks : List ByteArray) (s : ByteArray) : (addK ks s).length ≤ ks.length + 1 := by
  unfold addK
  split
  · omega
  · simp
theorem foldO_len : ∀ (ps : List (ByteArray × Nat × Nat)) (q : CrQ), (ps.foldl crO q).c.keys.length ≤ q.c.keys.length + ps.length
  | [], q => Nat.le_refl _
  | p :: ps, q => by
    have ih := foldO_len ps (crO q p)
    have h : (crO q p).c.keys.length ≤ q.c.keys.length + 1 := by
      unfold crO
      split
      · omega
      · exact addK_len _ _
    rw [List.length_cons]
    show (ps.foldl crO (crO q p)).c.keys.length ≤ _
    omega
theorem gainsO_len (l : List Snt) (how span : Int) (gs : List Gn) : ∀ k, k ≤ gs.length → (gainsO l how span gs k).keys.length ≤ 12 * k
  | 0, _ => Nat.le_refl _
  | k + 1, hk => by
    have ih := gainsO_len l how span gs k (by omega)
    rw [gainsO_succ _ _ _ _ _ (by omega)]
    unfold gainO crOs
    have h := foldO_len (partsL l gs[k].cents.toNat (pathN (pathP gs[k] span) l) (wsN how span (agL l gs[k] (pathN (pathP gs[k] span) l))) (pathN (pathP gs[k] span) l).length) ⟨gainsO l how span gs k, []⟩
    have hl : (partsL l gs[k].cents.toNat (pathN (pathP gs[k] span) l) (wsN how span (agL l gs[k] (pathN (pathP gs[k] span) l))) (pathN (pathP gs[k] span) l).length).length = (pathN (pathP gs[k] span) l).length := by unfold partsL; simp
    rw [hl] at h
    have h2 := pathN_len (pathP gs[k] span) l
    simp only at h
    omega
end Go.Proofs.YtgdagknjnidmiaaGreatDoor
/- The reference's way to count gains, as plain lists: a map of whole credits. -/
set_option linter.unusedVariables false
namespace Go.Proofs.YtgdagknjnidmiaaGreatDoor
open Go.RowKit Go.Maps Deal

/-- a credit of nobody -/
def ZC : Value := .agg #[.string ⟨#[]⟩, .int .i64 0, .int .i64 0]
theorem zero_cdt (w : World) : (zeroValue 58).run Tryz.prog w = .ok ZC w := by kernel_rfl
def nmF (ks : List ByteArray) (s : ByteArray) : ByteArray := if hasS ks s = true then s else ⟨#[]⟩
/-- what stands at the keys: whole credits -/
def agF (c : Crd) : ByteArray → Value := fun s => .agg #[.string (nmF c.keys s), .int .i64 (c.ga s : Int), .int .i64 (c.ce s : Int)]
theorem agF_put (c : Crd) (s : ByteArray) (ce ga : ByteArray → Nat) (h1 : ∀ x, s ≠ x → ce x = c.ce x) (h2 : ∀ x, s ≠ x → ga x = c.ga x) :
    putV (agF c) s (.agg #[.string s, .int .i64 (ga s : Int), .int .i64 (ce s : Int)]) = agF ⟨addK c.keys s, ce, ga⟩ := by
  funext x
  unfold putV agF nmF
  by_cases e : sameS s x = true
  · have := sameS_eq.1 e
    subst this
    rw [if_pos e]
    simp [hasS_addK, e]
  · have e' : sameS s x = false := by simpa using e
    have hne : s ≠ x := fun h => e (sameS_eq.2 h)
    rw [if_neg e]
    simp [hasS_addK, e', h1 x hne, h2 x hne]
/-- what has been given behind k parts -/
def crRQ (l : List Snt) (C : Nat) (q ws : List Nat) (c0 : Crd) (k : Nat) : CrQ := (partsL l C q ws k).foldl crR ⟨c0, []⟩
theorem crRQ_succ (l : List Snt) (C : Nat) (q ws : List Nat) (c0 : Crd) (k : Nat) : crRQ l C q ws c0 (k + 1) = crR (crRQ l C q ws c0 k) ((l.getD (q.getD k 0) default).letter, partN C ws k, ws.getD k 0) := by
  unfold crRQ
  rw [partsL_succ, List.foldl_append]
  rfl
theorem CrB.stepR {q : CrQ} {M : Nat} (h : CrB q.c M) (p : ByteArray × Nat × Nat) (hp : p.2.1 ≤ cU) : CrB (crR q p).c (M + 1) := by
  unfold crR
  by_cases hc : 0 < p.2.2 ∧ hasS q.seen p.1 = false
  · simp only [if_pos hc]
    have := h.ups (addK q.c.keys p.1) p.1 p.2.1 hp false
    simpa using this
  · simp only [if_neg hc]
    have := h.ups (addK q.c.keys p.1) p.1 p.2.1 hp true
    simpa using this
theorem CrB.foldR : ∀ (l : List (ByteArray × Nat × Nat)) (q : CrQ) (M : Nat), CrB q.c M → (∀ p ∈ l, p.2.1 ≤ cU) → CrB (l.foldl crR q).c (M + l.length)
  | [], q, M, h, _ => h
  | p :: l, q, M, h, hp => by
    have := CrB.foldR l (crR q p) (M + 1) (h.stepR p (hp p (by simp))) fun r hr => hp r (by simp [hr])
    rw [List.length_cons, show M + (l.length + 1) = M + 1 + l.length by omega]
    exact this
theorem crRQ_bd {l : List Snt} {C : Nat} {q ws : List Nat} {c0 : Crd} {M : Nat} (h : CrB c0 M) (hS : 0 < ws.sum) (hC : C ≤ 1000000000000) (k : Nat) (hk : k ≤ ws.length) : CrB (crRQ l C q ws c0 k).c (M + k) := by
  have hl : (partsL l C q ws k).length = k := by unfold partsL; simp
  have := CrB.foldR (partsL l C q ws k) ⟨c0, []⟩ M h (partsL_bd hC hS hk)
  rw [hl] at this
  exact this
theorem gainR_bd {l : List Snt} {how span : Int} {o : Crd} {g : Gn} {M : Nat} (h : CrB o M) (h1 : 1 ≤ how) (h2 : how ≤ 6) (hg : g.cents ≤ 1000000000000) : CrB (gainR l how span o g) (M + 12) := by
  rcases Nat.eq_zero_or_pos (pathN (pathP g span) l).length with h0 | h0
  · rw [(gain_nil h0).2]
    exact h.mono (by omega)
  · have hl : (agL l g (pathN (pathP g span) l)).length = (pathN (pathP g span) l).length := agL_len _ _ _
    have h3 := crRQ_bd (l := l) (C := g.cents.toNat) (q := pathN (pathP g span) l) (ws := wsN how span (agL l g (pathN (pathP g span) l))) h (wsN_pos how span _ h1 h2 (by rw [hl]; exact h0)) (by omega) (pathN (pathP g span) l).length (by rw [wsN_len, hl]; exact Nat.le_refl _)
    have := pathN_len (pathP g span) l
    exact CrB.mono h3 (by omega)
theorem gainsR_bd (l : List Snt) (how span : Int) (gs : List Gn) (h1 : 1 ≤ how) (h2 : how ≤ 6) (hg : ∀ g ∈ gs, g.cents ≤ 1000000000000) : ∀ k, k ≤ gs.length → CrB (gainsR l how span gs k) (12 * k)
  | 0, _ => CrB.nil
  | k + 1, hk => by
    rw [gainsR_succ _ _ _ _ _ (by omega)]
    exact (gainR_bd (gainsR_bd l how span gs h1 h2 hg k (by omega)) h1 h2 (hg _ (List.getElem_mem _))).mono (by omega)
/-- the letters met are letters of the list -/
theorem gainsR_keys (l : List Snt) (how span : Int) (gs : List Gn) (P : ByteArray → Prop) (hl : ∀ x ∈ l, P x.letter) : ∀ k, k ≤ gs.length → ∀ s ∈ (gainsR l how span gs k).keys, P s
  | 0, _, s, hs => by cases hs
  | k + 1, hk, s, hs => by
    rw [gainsR_succ _ _ _ _ _ (by omega)] at hs
    have ih := gainsR_keys l how span gs P hl k (by omega)
    have hpl : ∀ p ∈ partsL l gs[k].cents.toNat (pathN (pathP gs[k] span) l) (wsN how span (agL l gs[k] (pathN (pathP gs[k] span) l))) (pathN (pathP gs[k] span) l).length, P p.1 := by
      intro p hp
      unfold partsL at hp
      obtain ⟨j, hj, rfl⟩ := List.mem_map.1 hp
      have hj := List.mem_range.1 hj
      have hm := List.getElem_mem hj
      obtain ⟨hi, -⟩ := pathN_at hm
      simp only [List.getD_eq_getElem?_getD, List.getElem?_eq_getElem hj, Option.getD_some, List.getElem?_eq_getElem hi]
      exact hl _ (List.getElem_mem hi)
    have fold : ∀ (ps : List (ByteArray × Nat × Nat)) (q : CrQ), (∀ p ∈ ps, P p.1) → (∀ s ∈ q.c.keys, P s) → ∀ s ∈ (ps.foldl crR q).c.keys, P s := by
      intro ps
      induction ps with
      | nil => intro q _ h; exact h
      | cons p ps ih2 =>
        intro q h1 h2
        refine ih2 (crR q p) (fun r hr => h1 r (by simp [hr])) fun s hs => ?_
        rcases addK_mem.1 (show s ∈ addK q.c.keys p.1 from hs) with hs | rfl
        · exact h2 s hs
        · exact h1 p (by simp)
    exact fold _ ⟨gainsR l how span gs k, []⟩ hpl ih s hs
theorem few_of {α : Type} [DecidableEq α] : ∀ (ks m : List α), ks.Nodup → (∀ s ∈ ks, s ∈ m) → ks.length ≤ m.length
  | [], m, _, _ => Nat.zero_le _
  | x :: ks, m, h, hs => by
    have hx := hs x (by simp)
    rw [List.nodup_cons] at h
    have h2 := few_of ks (m.erase x) h.2 (fun s hs' => (List.mem_erase_of_ne (fun (e : s = x) => h.1 (by rw [← e]; exact hs'))).2 (hs s (by simp [hs'])))
    rw [List.length_erase_of_mem hx] at h2
    have : 0 < m.length := List.length_pos_of_mem hx
    rw [List.length_cons]
    omega
/-- no key twice, all in a short list: few keys -/
theorem few_keys {ks m : List ByteArray} (h : ks.Nodup) (hs : ∀ s ∈ ks, s ∈ m) : ks.length ≤ m.length := by
  have := few_of (ks.map fun s => s.data.toList) (m.map fun s => s.data.toList) (by
    rw [List.Nodup, List.pairwise_map]
    exact h.imp fun {a b} h e => h (sameS_eq.1 (decide_eq_true e))) (fun s hs' => by
    obtain ⟨x, hx, rfl⟩ := List.mem_map.1 hs'
    exact List.mem_map.2 ⟨x, hs x hx, rfl⟩)
  simpa using this
theorem wways_nil (how span : Int) : wwE how span [] = if how < 1 ∨ 6 < how then 4 else if span < 1 ∨ 4321440 < span then 1 else 0 := by
  unfold wwE
  split
  · rfl
  · split
    · rfl
    · rw [if_neg (by simp)]
      exact scan_good span [] (fun i hi => by simp at hi)
end Go.Proofs.YtgdagknjnidmiaaGreatDoor
