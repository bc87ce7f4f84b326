/- Contracts of measure.Weights and of the reference WeightsOf. -/
import Derived.Test.YtdnikegakcdcnaaWgt
import Derived.Test.YtdnikegakcdcnaaCompare
import Derived.Test.YtdnikegakcdcnaaShareOf
import Derived.Test.YtdnikegakcdcnaaRows3
set_option linter.unusedVariables false
namespace Go.Proofs.Ytdnikegakcdcnaa
open Go.RowKit

/-- what is wrong with the age at a place -/
def badA (span : Int) (zs : List Int) (i : Nat) : Int := if zs.getD i 0 < 1 ∨ span < zs.getD i 0 then 1 else if 0 < i ∧ zs.getD (i - 1) 0 < zs.getD i 0 then 7 else 0
def scanE (span : Int) (zs : List Int) : Int := orF ((List.range zs.length).map (badA span zs))
def wwE (how span : Int) (zs : List Int) : Int := if how < 1 ∨ 6 < how then 4 else if span < 1 ∨ 4321440 < span then 1 else if 12 < zs.length then 2 else scanE span zs
def wgtL (how span : Int) (zs : List Int) (k : Nat) : List Int := (List.range k).map fun i => wgt how (18 * (zs.getD i 0).toNat / span.toNat) i zs.length
def wwL (how span : Int) (zs : List Int) : List Int := if wwE how span zs = 0 then wgtL how span zs zs.length else []

theorem orF_first (l : List Int) (k : Nat) (hk : k < l.length) (h0 : ∀ i (hi : i < k), l[i] = 0) (h1 : l[k] ≠ 0) : orF l = l[k] := by
  induction l generalizing k with
  | nil => simp at hk
  | cons x l ih =>
    cases k with
    | zero => simp only [orF]; rw [if_neg (show ¬ x = 0 from h1)]; rfl
    | succ k =>
      have hx : x = 0 := h0 0 (by omega)
      simp only [orF]
      rw [if_pos hx]
      exact ih k (by simpa using hk) (fun i hi => h0 (i + 1) (by omega)) h1
theorem orF_none (l : List Int) (h0 : ∀ i (hi : i < l.length), l[i] = 0) : orF l = 0 := by
  induction l with
  | nil => rfl
  | cons x l ih =>
    have hx : x = 0 := h0 0 (by simp)
    simp only [orF]
    rw [if_pos hx]
    exact ih (fun i hi => h0 (i + 1) (by simpa using hi))
theorem scan_bad (span : Int) (zs : List Int) (k : Nat) (hk : k < zs.length) (h0 : ∀ i, i < k → badA span zs i = 0) (h1 : badA span zs k ≠ 0) : scanE span zs = badA span zs k := by
  unfold scanE
  rw [orF_first _ k (by simpa using hk) (fun i hi => by simpa using h0 i hi) (by simpa using h1)]
  simp
theorem scan_good (span : Int) (zs : List Int) (h0 : ∀ i, i < zs.length → badA span zs i = 0) : scanE span zs = 0 :=
  orF_none _ (fun i hi => by simpa using h0 i (by simpa using hi))
theorem badA_good {span : Int} {zs : List Int} {i : Nat} (h : badA span zs i = 0) : 1 ≤ zs.getD i 0 ∧ zs.getD i 0 ≤ span := by
  unfold badA at h
  by_cases b : zs.getD i 0 < 1 ∨ span < zs.getD i 0
  · rw [if_pos b] at h; cases h
  · omega
theorem wgtL_succ (how span : Int) (zs : List Int) (k : Nat) : wgtL how span zs (k + 1) = wgtL how span zs k ++ [wgt how (18 * (zs.getD k 0).toNat / span.toNat) k zs.length] := by
  simp [wgtL, List.range_succ]
theorem wgtL_len (how span : Int) (zs : List Int) (k : Nat) : (wgtL how span zs k).length = k := by simp [wgtL]
theorem getD_get (zs : List Int) (k : Nat) (hk : k < zs.length) : zs.getD k 0 = zs[k] := by simp [hk]

def WeightsOut (w : World) (how span : Int) (zs : List Int) (e : Ending) (w' : World) : Prop :=
  ∃ v, e = .returned (.tuple #[v, .int .i64 (wwE how span zs)]) ∧ SliceIs w' v (wwL how span zs) ∧ Below w.heap.size w w'
theorem weightsOut_nil {w w' : World} {how span : Int} {zs : List Int} {k : Int} (h : wwE how span zs = k) (hk : k ≠ 0) (hb : Below w.heap.size w w') : WeightsOut w how span zs (.returned (.tuple #[.slice none 0 0, .int .i64 k])) w' := by
  refine ⟨_, by rw [h], ?_, hb⟩
  unfold wwL
  rw [if_neg (by rw [h]; exact hk)]
  exact SliceIs.nil w'
theorem weightsOut_ok {w w' : World} {how span : Int} {zs : List Int} {v : Value} (h : wwE how span zs = 0) (hI : SliceIs w' v (wgtL how span zs zs.length)) (hb : Below w.heap.size w w') :
    WeightsOut w how span zs (.returned (.tuple #[v, .int .i64 0])) w' := by
  refine ⟨v, by rw [h], ?_, hb⟩
  unfold wwL
  rw [if_pos h]
  exact hI
theorem slice_of_row {w : World} {b0 : Nat} {v : Value} {k : Nat} {l : List Int} (h : w.ownsRow b0 3 1 v k (l.map (Value.int .i64))) (hk : l.length = k) : SliceIs w v l := by
  subst hk
  rcases h.2 with ⟨rfl, h0⟩ | ⟨g, cap, cur, rfl, _⟩
  · have : l = [] := List.eq_nil_of_length_eq_zero h0
    subst this
    exact SliceIs.nil w
  · exact ⟨_, cap, rfl, IntsAt.of_own h⟩

theorem infoW : (Try.prog.info? 3).map (fun i => (i.zero, i.size, i.bytes)) = some (some (.int .i64 0), 1, 8) := by kernel_rfl

theorem checkWays_any (how span : Int) (w : World) :
    Calls Try.prog 71 #[.int .i64 how, .int .i64 span] w fun e w' => e = .returned (.int .i64 (if how < 1 ∨ 6 < how then 4 else if span < 1 ∨ 4321440 < span then 1 else 0)) ∧ w = w' := by
  by_cases b1 : how < 1 ∨ 6 < how
  · rw [if_pos b1]
    go_enter Try.func71, Try.ntmps71
    go_wp2_with fail
    with_reducible refine (within_no _ _ _ _ b1).mono ?_
    rintro e w' ⟨rfl, rfl⟩
    go_wp2
    go_ret
    exact ⟨rfl, rfl⟩
  · rw [if_neg b1]
    by_cases b2 : span < 1 ∨ 4321440 < span
    · rw [if_pos b2]
      go_enter Try.func71, Try.ntmps71
      go_wp2_with fail
      with_reducible refine (within_yes _ _ _ _ (by omega) (by omega)).mono ?_
      rintro e w' ⟨rfl, rfl⟩
      go_wp2_with fail
      with_reducible refine (within_no _ _ _ _ b2).mono ?_
      rintro e w' ⟨rfl, rfl⟩
      go_wp2
      go_ret
      exact ⟨rfl, rfl⟩
    · rw [if_neg b2]
      go_enter Try.func71, Try.ntmps71
      go_wp2_with fail
      with_reducible refine (within_yes _ _ _ _ (by omega) (by omega)).mono ?_
      rintro e w' ⟨rfl, rfl⟩
      go_wp2_with fail
      with_reducible refine (within_yes _ _ _ _ (by omega) (by omega)).mono ?_
      rintro e w' ⟨rfl, rfl⟩
      go_wp2
      go_ret
      exact ⟨rfl, rfl⟩

set_option maxRecDepth 100000 in
set_option maxHeartbeats 2000000 in
theorem weights_any (how span : Int) (a : Option Addr) (zs : List Int) (n cp : Nat) (w : World) (h1 : 1 ≤ how) (h2 : how ≤ 6) (hs1 : 1 ≤ span) (hs2 : span ≤ 4321440) (hn : zs.length = n) (hn1 : n ≤ 1000) (hI : IntsAt w a zs) (hg : ∀ i, i < n → badA span zs i = 0) :
    Calls Try.prog 72 #[.int .i64 how, .int .i64 span, .slice a n cp] w fun e w' => ∃ v, e = .returned v ∧ SliceIs w' v (wgtL how span zs n) ∧ Below w.heap.size w w' := by
  obtain ⟨i0, hi, hz0, hz1, hz2⟩ := info_parts infoW
  have HN := Lib.hid hn
  have HI := Lib.hid hI
  have HG := Lib.hid hg
  obtain ⟨sp, rfl⟩ := Int.eq_ofNat_of_zero_le (show 0 ≤ span by omega)
  clear hn hI hg
  go_enter Try.func72, Try.ntmps72
  go_wp2_with fail
  go_loopw [7, 8, 9, 12] (fun v _ _ i wr => ∃ k : Nat, k ≤ n ∧ i = .int .i64 k ∧ wr.ownsRow w.heap.size 3 1 v k ((wgtL how sp zs k).map (Value.int .i64)) ∧ Below w.heap.size w wr) (fun _ _ _ i _ => n - (intOf i).toNat)
  case atStart => exact ⟨0, Nat.zero_le _, rfl, World.ownsRow_nil _ _ _ _, Below.refl _ _⟩
  case round =>
    obtain ⟨k, hk, rfl, hrow, hB⟩ := hrel
    have hsz := hB.size
    by_cases hlt : k < n
    · have hkz : k < zs.length := by have := HN.out; omega
      obtain ⟨p, off, rfl, hp, hcell⟩ := HI.out.at_ hkz
      have hcell' := (hB.cell (p := ⟨p, off + k, none⟩) hp).trans hcell
      have hz := badA_good (HG.out k hlt)
      rw [getD_get zs k hkz] at hz
      have HF := Lib.hid (wgtL_succ how sp zs k)
      rw [getD_get zs k hkz, HN.out] at HF
      have HB := Lib.hid hB
      have own1 := hrow
      clear hrow hB hcell
      generalize zs[k] = z at *
      obtain ⟨ag, rfl⟩ := Int.eq_ofNat_of_zero_le (show 0 ≤ z by omega)
      simp only [Int.toNat_natCast] at HF
      go_wp2_with fail
      with_reducible refine (weight_any how sp ag k n _ h1 h2 (by omega) (by omega) (by omega) hlt hn1).mono ?_
      rintro e w' ⟨rfl, rfl⟩
      generalize wgt how (18 * ag / sp) k n = x at *
      go_wp2_with (at_builtin; refine wpList_append_own _ rfl _ _ 22 rfl w.heap.size 3 i0 (.int .i64 0) 1 8 Try.underlying22 hi hz0 hz1 hz2 rfl (by decide) _ _ _ rfl (own1.alloc _) ⟨wr.heap.size, 0, none⟩ 1 1 [.int .i64 x] rfl rfl ?c1 ?c2 ?c3 ?c4 ?c5 ?_)
      case c1 => exact cell_one_new _ _ _
      case c2 => simp [Value.oneCell']
      case c3 => unfold maxLen; omega
      case c4 => omega
      case c5 => simp; omega
      intro v2 w2 own2 hgrow2 hne2
      have HO2 := Lib.hid (show w2.ownsRow w.heap.size 3 1 v2 (k + 1) ((wgtL how sp zs (k + 1)).map (Value.int .i64)) by rw [HF.out]; simpa using own2)
      have HB2 := Lib.hid ((HB.out.alloc (by omega) _).grown hgrow2 (by simp; omega) (fun q hq => (own1.lt q hq).1))
      clear own2 hgrow2 hne2 own1 HB
      go_wp2
      go_roundw
      case rel => exact ⟨k + 1, by omega, by go_num, HO2.out, HB2.out⟩
      case measure => simp [intOf]; omega
    · obtain rfl : k = n := by omega
      have HF := Lib.hid (slice_of_row hrow (wgtL_len _ _ _ _))
      have HB := Lib.hid hB
      clear hrow hB
      go_wp2
      go_ret
      exact ⟨_, rfl, HF.out, HB.out⟩

set_option maxRecDepth 100000 in
set_option maxHeartbeats 2000000 in
theorem Weights_any (how span : Int) (a : Option Addr) (zs : List Int) (n cp : Nat) (w : World) (hn : zs.length = n) (hn1 : n ≤ 1000) (hI : IntsAt w a zs) :
    Calls Try.prog 39 #[.int .i64 how, .int .i64 span, .slice a n cp] w (WeightsOut w how span zs) := by
  have HN := Lib.hid hn
  have HI := Lib.hid hI
  clear hn hI
  by_cases b1 : how < 1 ∨ 6 < how
  · have HE := Lib.hid (show wwE how span zs = 4 by unfold wwE; rw [if_pos b1])
    have HC := Lib.hid (checkWays_any how span w)
    rw [if_pos b1] at HC
    go_enter Try.func39, Try.ntmps39
    go_wp2_with fail
    with_reducible refine HC.out.mono ?_
    rintro e w' ⟨rfl, rfl⟩
    go_wp2
    go_ret2
    exact weightsOut_nil HE.out (by decide) (Below.refl _ _)
  by_cases b2 : span < 1 ∨ 4321440 < span
  · have HE := Lib.hid (show wwE how span zs = 1 by unfold wwE; rw [if_neg b1, if_pos b2])
    have HC := Lib.hid (checkWays_any how span w)
    rw [if_neg b1, if_pos b2] at HC
    go_enter Try.func39, Try.ntmps39
    go_wp2_with fail
    with_reducible refine HC.out.mono ?_
    rintro e w' ⟨rfl, rfl⟩
    go_wp2
    go_ret2
    exact weightsOut_nil HE.out (by decide) (Below.refl _ _)
  have HC := Lib.hid (checkWays_any how span w)
  rw [if_neg b1, if_neg b2] at HC
  by_cases b3 : 12 < n
  · have HE := Lib.hid (show wwE how span zs = 2 by unfold wwE; rw [if_neg b1, if_neg b2, if_pos (by rw [HN.out]; exact b3)])
    clear b1 b2
    go_enter Try.func39, Try.ntmps39
    go_wp2_with fail
    with_reducible refine HC.out.mono ?_
    rintro e w' ⟨rfl, rfl⟩
    go_wp2
    go_ret2
    exact weightsOut_nil HE.out (by decide) (Below.refl _ _)
  have HE0 := Lib.hid (show wwE how span zs = scanE span zs by unfold wwE; rw [if_neg b1, if_neg b2, if_neg (by rw [HN.out]; exact b3)])
  have c1 : 1 ≤ how ∧ how ≤ 6 := by omega
  have c2 : 1 ≤ span ∧ span ≤ 4321440 := by omega
  clear b1 b2
  go_enter Try.func39, Try.ntmps39
  go_wp2_with fail
  with_reducible refine HC.out.mono ?_
  rintro e w' ⟨rfl, rfl⟩
  clear HC
  go_wp2_with fail
  go_loop [9, 10, 22] (fun _ _ i => ∃ k : Nat, k ≤ n ∧ i = .int .i64 k ∧ ∀ i, i < k → badA span zs i = 0) (fun _ _ i => n - (intOf i).toNat)
  case atStart => exact ⟨0, Nat.zero_le _, rfl, fun i hi => by omega⟩
  case round =>
    obtain ⟨k, hk, rfl, hgood⟩ := hrel
    have HG := Lib.hid hgood
    clear hgood
    by_cases hlt : k < n
    · have hkz : k < zs.length := by have := HN.out; omega
      obtain ⟨p, off, rfl, hp, hcell⟩ := HI.out.at_ hkz
      have HBAD := Lib.hid (fun h => HE0.out.trans (scan_bad span zs k hkz HG.out h))
      by_cases hz : zs[k] < 1 ∨ span < zs[k]
      · have HB1 := Lib.hid (show badA span zs k = 1 by unfold badA; rw [getD_get zs k hkz, if_pos hz])
        have HE := Lib.hid ((HBAD.out (by rw [HB1.out]; decide)).trans HB1.out)
        generalize zs[k] = z at *
        go_wp2_with fail
        with_reducible refine (within_no _ _ _ _ hz).mono ?_
        rintro e w' ⟨rfl, rfl⟩
        go_wp2
        go_ret2
        exact weightsOut_nil HE.out (by decide) (Below.refl _ _)
      · by_cases hk0 : 0 < k
        · have hk1 : k - 1 < zs.length := by omega
          obtain ⟨p2, off2, hpe, hp2, hcell2⟩ := HI.out.at_ hk1
          injection hpe with hpe
          injection hpe with e1 e2 e3
          subst e1 e2
          have ek : ((k : Int) - 1) = ((k - 1 : Nat) : Int) := by omega
          by_cases ho : zs[k - 1] < zs[k]
          · have HB1 := Lib.hid (show badA span zs k = 7 by unfold badA; rw [getD_get zs k hkz, getD_get zs (k - 1) hk1, if_neg hz, if_pos ⟨hk0, ho⟩])
            have HE := Lib.hid ((HBAD.out (by rw [HB1.out]; decide)).trans HB1.out)
            generalize zs[k] = z at *
            generalize zs[k - 1] = y at *
            go_wp2_with fail
            with_reducible refine (within_yes _ _ _ _ (by omega) (by omega)).mono ?_
            rintro e w' ⟨rfl, rfl⟩
            go_wp2
            go_ret2
            exact weightsOut_nil HE.out (by decide) (Below.refl _ _)
          · have HB1 := Lib.hid (show badA span zs k = 0 by unfold badA; rw [getD_get zs k hkz, getD_get zs (k - 1) hk1, if_neg hz, if_neg (fun h => ho h.2)])
            generalize zs[k] = z at *
            generalize zs[k - 1] = y at *
            go_wp2_with fail
            with_reducible refine (within_yes _ _ _ _ (by omega) (by omega)).mono ?_
            rintro e w' ⟨rfl, rfl⟩
            go_wp2
            go_round
            case rel => exact ⟨k + 1, by omega, by go_num, fun i hi => if h : i = k then by rw [h]; exact HB1.out else HG.out i (by omega)⟩
            case measure => simp [intOf]; omega
        · obtain rfl : k = 0 := by omega
          have HB1 := Lib.hid (show badA span zs 0 = 0 by unfold badA; rw [getD_get zs 0 hkz, if_neg hz, if_neg (fun h => hk0 h.1)])
          have HG2 := Lib.hid (show ∀ i, i < 1 → badA span zs i = 0 from fun i hi => by
            obtain rfl : i = 0 := by omega
            exact HB1.out)
          have hcell0 : w.cell? ⟨p, off, none⟩ = some (.int .i64 zs[0]) := hcell
          generalize zs[0] = z at *
          go_wp2_with fail
          with_reducible refine (within_yes _ _ _ _ (by omega) (by omega)).mono ?_
          rintro e w' ⟨rfl, rfl⟩
          go_wp2
          go_round
          case rel => exact ⟨1, by omega, rfl, HG2.out⟩
          case measure => simp [intOf]; omega
    · obtain rfl : k = n := by omega
      have HE := Lib.hid (HE0.out.trans (scan_good span zs (fun i hi => HG.out i (by have := HN.out; omega))))
      have HD := Lib.hid (weights_any how span a zs k cp w c1.1 c1.2 c2.1 c2.2 HN.out hn1 HI.out HG.out)
      go_wp2_with fail
      with_reducible refine HD.out.mono ?_
      rintro e w' ⟨v, rfl, hS, hb⟩
      have HS := Lib.hid hS
      clear hS
      go_wp2
      go_ret2
      exact weightsOut_ok HE.out (by rw [HN.out]; exact HS.out) hb
end Go.Proofs.Ytdnikegakcdcnaa
