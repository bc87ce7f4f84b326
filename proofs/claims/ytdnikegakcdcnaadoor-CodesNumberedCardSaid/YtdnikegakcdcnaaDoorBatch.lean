/- offer.Batch and handref1.BatchOf. -/
import Derived.Test.YtdnikegakcdcnaaDoorCodeNum
import Derived.Test.YtdnikegakcdcnaaDoorLists
import Derived.Laws.IdiomStrings
import Derived.Deep.DeepCutAuto
set_option linter.unusedVariables false
namespace Go.Proofs.YtdnikegakcdcnaaDoor
open Go.RowKit

theorem infoU8 : (Tryd.prog.info? 5).map (fun i => (i.zero, i.size, i.bytes)) = some (some (.int .u8 0), 1, 1) := by kernel_rfl

/-- the codes of a batch -/
def codesL (p : ByteArray) (c key frm n : Nat) : List ByteArray := (List.range n).map fun i => codeAt p c key (frm + i)
theorem codesL_len (p : ByteArray) (c key frm n : Nat) : (codesL p c key frm n).length = n := by simp [codesL]
theorem codesL_succ (p : ByteArray) (c key frm n : Nat) : codesL p c key frm (n + 1) = codesL p c key frm n ++ [codeAt p c key (frm + n)] := by simp [codesL, List.range_succ]
def batchBad (c frm many : Int) : Bool := decide (frm < 0) || decide ((pw c.toNat : Int) ≤ frm) || decide (many < 0) || decide (1000 < many) || decide ((pw c.toNat : Int) < frm + many)
/-- what Batch and BatchOf give -/
def batchO (p : ByteArray) (c key frm many : Int) : List ByteArray × Int :=
  if batchE p c key ≠ 0 then ([], batchE p c key) else if batchBad c frm many = true then ([], 1) else (codesL p c.toNat key.toNat frm.toNat many.toNat, 0)
theorem batchE_ok {p : ByteArray} {c key : Int} (h : batchE p c key = 0) : p.size ≤ 12 ∧ sgnB p.data.toList = true ∧ ∃ n k : Nat, c = (n : Int) ∧ 3 ≤ n ∧ n ≤ 11 ∧ key = (k : Int) ∧ k < pw n := by
  unfold batchE at h
  split at h
  · omega
  · split at h
    · omega
    · rename_i hs
      split at h
      · omega
      · rename_i h3
        split at h
        · omega
        · rename_i h4
          obtain ⟨n, rfl⟩ := Int.eq_ofNat_of_zero_le (show 0 ≤ c by omega)
          obtain ⟨k, rfl⟩ := Int.eq_ofNat_of_zero_le (show 0 ≤ key by omega)
          rw [Int.toNat_natCast] at h4
          exact ⟨by omega, by simpa using hs, n, k, rfl, by omega, by omega, rfl, by omega⟩
/-- a list of strings that a call gives -/
def SLOut (w : World) (L : List ByteArray) (E : Int) (e : Ending) (w' : World) : Prop :=
  ∃ a c, e = .returned (.tuple #[.slice a L.length c, .int .i64 E]) ∧ StrsAt w' a L ∧ (∀ p off, a = some ⟨p, off, none⟩ → w.heap.size ≤ p) ∧ Below w.heap.size w w'
theorem batchO_el (p : ByteArray) (c key frm many : Int) : ∀ x ∈ (batchO p c key frm many).1, x.size ≤ 500 := by
  intro x hx
  unfold batchO at hx
  split at hx
  · simp at hx
  · split at hx
    · simp at hx
    · rename_i h1 h2
      obtain ⟨hp, -, n, k, rfl, h3, h4, rfl, -⟩ := batchE_ok (by simpa using h1)
      simp only [codesL, List.mem_map, Int.toNat_natCast] at hx
      obtain ⟨i, -, rfl⟩ := hx
      have := codeAt_size p n k (frm.toNat + i)
      omega
theorem SLOut.nil {w w' : World} {E : Int} (h : Below w.heap.size w w') : SLOut w [] E (.returned (.tuple #[.slice none 0 0, .int .i64 E])) w' := ⟨none, 0, rfl, StrsAt.nil _ _, fun p off h => (by cases h), h⟩
theorem SLOut.own {w w' : World} {v : Value} {b0 : Nat} {t : TypeId} {L : List ByteArray} {E : Int} (h : w'.ownsRow b0 t 1 v L.length (L.map Value.string)) (hb : Below w.heap.size w w') (h0 : w.heap.size ≤ b0) : SLOut w L E (.returned (.tuple #[v, .int .i64 E])) w' := by
  obtain ⟨a, c, rfl, h1⟩ := StrsAt.of_own h
  refine ⟨a, c, rfl, h1, fun p off e => ?_, hb⟩
  subst e
  exact Nat.le_trans h0 (h.lt p (by simp [Value.ownBlock])).1

/-- one of the digits, as they stand in the row from place i on -/
def dgF (v c i : Nat) (j : Nat) : Value := if j < i then .int .u8 0 else .int .u8 ((sgL.getD (v / pw (c - 1 - j) % 31) 0).toNat : Int)
theorem digs_get (v : Nat) : ∀ (c j : Nat) (h : j < (digs v c).length), (digs v c)[j] = sgL.getD (v / pw (c - 1 - j) % 31) 0
  | 0, j, h => by simp [digs] at h
  | c + 1, 0, h => by simp [digs]
  | c + 1, j + 1, h => by
    have h' : j < (digs v c).length := by simpa [digs] using h
    have := digs_get v c j h'
    show (digs v c)[j] = _
    rw [this]
    rw [show c + 1 - 1 - (j + 1) = c - 1 - j by omega]
theorem dgF_set (v c i j : Nat) : (if j = i then .int .u8 ((sgL.getD (v / pw (c - 1 - i) % 31) 0).toNat : Int) else dgF v c (i + 1) j) = dgF v c i j := by
  unfold dgF
  by_cases h : j = i
  · subst h
    rw [if_pos rfl, if_neg (by omega)]
  · rw [if_neg h]
    by_cases h2 : j < i
    · rw [if_pos h2, if_pos (by omega)]
    · rw [if_neg h2, if_neg (by omega)]
theorem lit_get (d : Nat) (h : d < 31) : (⟨#[48, 49, 50, 51, 52, 53, 54, 55, 56, 57, 65, 66, 67, 68, 69, 70, 71, 72, 74, 75, 77, 78, 80, 81, 82, 84, 85, 86, 87, 88, 89]⟩ : ByteArray)[d] = sgL.getD d 0 := by
  show (#[48, 49, 50, 51, 52, 53, 54, 55, 56, 57, 65, 66, 67, 68, 69, 70, 71, 72, 74, 75, 77, 78, 80, 81, 82, 84, 85, 86, 87, 88, 89] : Array UInt8)[d] = _
  have h' : d < sgL.length := h
  rw [List.getD_eq_getElem?_getD, List.getElem?_eq_getElem h']
  rfl
theorem run_index_sg (w : World) (d : Nat) (h : d < 31) : (Instr.index 9 (.string ⟨#[48, 49, 50, 51, 52, 53, 54, 55, 56, 57, 65, 66, 67, 68, 69, 70, 71, 72, 74, 75, 77, 78, 80, 81, 82, 84, 85, 86, 87, 88, 89]⟩) (.int .i64 (d : Int))).run Tryd.prog w = .ok (.int .u8 ((sgL.getD d 0).toNat : Int)) w := by
  have hl := lit_get d h
  rw [run_index_string (h := Tryd.underlying9)]
  have hs : (d : Int) < ((⟨#[48, 49, 50, 51, 52, 53, 54, 55, 56, 57, 65, 66, 67, 68, 69, 70, 71, 72, 74, 75, 77, 78, 80, 81, 82, 84, 85, 86, 87, 88, 89]⟩ : ByteArray).size : Int) := by show (d : Int) < 31; omega
  rw [dif_pos ⟨by omega, hs⟩]
  simp only [Int.toNat_natCast]
  rw [hl]
theorem string_of_row {w : World} {g c : Nat} {v : Nat} (h : RowG w g c (dgF v c 0)) :
    (convert 190 9 (.slice (some ⟨g, 0, none⟩) c c)).run Tryd.prog w = .ok (.string ⟨(digs v c).toArray⟩) w := by
  have hl := digs_len v c
  have := run_convert_bytes_back (P := Tryd.prog) w 190 9 5 ⟨g, 0, none⟩ c (digs v c) Tryd.underlying190 Tryd.underlying5 Tryd.underlying9 (fun j hj => by
    have e : (Addr.add ⟨g, 0, none⟩ j) = ⟨g, j, none⟩ := by
      unfold Addr.add
      split
      · rename_i h0; subst h0; rfl
      · simp
    rw [e, h.cell j (by omega), digs_get]
    simp [dgF])
  rw [hl] at this
  exact this

theorem times79_any (a m : Nat) (w : World) (ha : a ≤ 36028797018963968) (hm : m ≤ 36028797018963968) (h0 : 7919 ≤ m) :
    Calls Tryd.prog 157 #[.int .i64 (a : Int), .int .i64 7919, .int .i64 (m : Int)] w fun e w' => e = .returned (.int .i64 ((a * 7919 % m : Nat) : Int)) ∧ ∃ k, w' = w.drewN k :=
  times_any a 7919 m w ha (by omega) hm (by omega) h0

set_option maxRecDepth 100000 in
set_option maxHeartbeats 4000000 in
theorem Batch_any (p : ByteArray) (c key frm many : Int) (w : World) (hp : p.size ≤ 100) (hf0 : -100000 ≤ frm) (hf1 : frm ≤ 100000) (hm0 : -100000 ≤ many) (hm1 : many ≤ 100000) :
    Calls Tryd.prog 82 #[.string p, .int .i64 c, .int .i64 key, .int .i64 frm, .int .i64 many] w (SLOut w (batchO p c key frm many).1 (batchO p c key frm many).2) := by
  obtain ⟨i0, hi, hz0, hz1, hz2'⟩ := info_parts infoStr
  obtain ⟨i1, hi1, hy0, hy1, hy2⟩ := info_parts infoU8
  obtain ⟨O, hO⟩ : ∃ O, batchO p c key frm many = O := ⟨_, rfl⟩
  rw [hO]
  have HO := Lib.hid hO.symm
  unfold batchO at HO
  clear hO
  have C1 := Lib.hid (fun w => checkBatch_any p c key w hp)
  obtain ⟨E, hE⟩ : ∃ E, batchE p c key = E := ⟨_, rfl⟩
  have HOK := Lib.hid (fun h : E = 0 => batchE_ok (hE.trans h))
  rw [hE] at HO C1
  clear hE
  go_enter Tryd.func82, Tryd.ntmps82
  go_wp2_with fail
  with_reducible refine (C1.out _).mono ?_
  rintro e w1 ⟨rfl, rfl⟩
  by_cases hE0 : E = 0
  · have HO1 := Lib.hid (HO.out.trans (if_neg (by simpa using hE0)))
    obtain ⟨hp12, hs, n, k, rfl, hn3, hn11, rfl, hkP⟩ := HOK.out hE0
    subst hE0
    clear HO HOK
    simp only [Int.toNat_natCast] at HO1
    have CP := Lib.hid (fun w => power_any n w hn11)
    have CA := Lib.hid (fun i w => times79_any i (pw n) w)
    have hPb := pw_le n hn11
    have hP3 := pw_mono hn3
    have e3 : pw 3 = 29791 := rfl
    rw [e3] at hP3
    have HS := Lib.hid hs
    have HBB := Lib.hid (show batchBad (n : Int) frm many = (decide (frm < 0) || decide ((pw n : Int) ≤ frm) || decide (many < 0) || decide (1000 < many) || decide ((pw n : Int) < frm + many)) from by unfold batchBad; rw [Int.toNat_natCast])
    have HV := Lib.hid (fun i => show codeAt p n k i = sealS (p ++ ⟨(digs ((i * 7919 + k) % pw n) n).toArray⟩) from rfl)
    have HPJ := Lib.hid (fun j => div_pw j)
    clear hs e3
    obtain ⟨B, hB⟩ : ∃ B, batchBad (n : Int) frm many = B := ⟨_, rfl⟩
    rw [hB] at HO1 HBB
    clear hB
    obtain ⟨P, hP⟩ : ∃ P, pw n = P := ⟨_, rfl⟩
    rw [hP] at hkP CP CA hPb hP3 HBB HV
    have HP := Lib.hid hP
    clear hP
    go_wp2_with fail
    with_reducible refine (CP.out _).mono ?_
    rintro e w1 ⟨rfl, rfl⟩
    by_cases h1 : frm < 0 ∨ (P : Int) ≤ frm
    · obtain rfl : B = true := by rw [HBB.out]; simp; omega
      obtain rfl : O = ([], 1) := HO1.out.trans (if_pos rfl)
      go_wp2_with fail
      with_reducible refine (owithin_no _ _ _ _ (by omega)).mono ?_
      rintro e w1 ⟨rfl, rfl⟩
      go_wp2_with fail
      go_ret2
      exact SLOut.nil (Below.refl _ _)
    · by_cases h2 : many < 0 ∨ 1000 < many
      · obtain rfl : B = true := by rw [HBB.out]; simp; omega
        obtain rfl : O = ([], 1) := HO1.out.trans (if_pos rfl)
        go_wp2_with fail
        with_reducible refine (owithin_yes _ _ _ _ (by omega) (by omega)).mono ?_
        rintro e w1 ⟨rfl, rfl⟩
        go_wp2_with fail
        with_reducible refine (owithin_no _ _ _ _ (by omega)).mono ?_
        rintro e w1 ⟨rfl, rfl⟩
        go_wp2_with fail
        go_ret2
        exact SLOut.nil (Below.refl _ _)
      · by_cases h3 : (P : Int) < frm + many
        · obtain rfl : B = true := by rw [HBB.out]; simp; omega
          obtain rfl : O = ([], 1) := HO1.out.trans (if_pos rfl)
          go_wp2_with fail
          with_reducible refine (owithin_yes _ _ _ _ (by omega) (by omega)).mono ?_
          rintro e w1 ⟨rfl, rfl⟩
          go_wp2_with fail
          with_reducible refine (owithin_yes _ _ _ _ (by omega) (by omega)).mono ?_
          rintro e w1 ⟨rfl, rfl⟩
          go_wp2_with fail
          go_ret2
          exact SLOut.nil (Below.refl _ _)
        · obtain rfl : B = false := by rw [HBB.out]; simp; omega
          have HO2 := Lib.hid (HO1.out.trans (if_neg (by decide)))
          obtain ⟨f, rfl⟩ := Int.eq_ofNat_of_zero_le (show 0 ≤ frm by omega)
          obtain ⟨m, rfl⟩ := Int.eq_ofNat_of_zero_le (show 0 ≤ many by omega)
          simp only [Int.toNat_natCast] at HO2
          obtain rfl : O = (codesL p n k f m, 0) := HO2.out
          have hfP : f < P := by omega
          have hm3 : m ≤ 1000 := by omega
          clear HO1 HO2 HBB C1 CP h1 h2
          go_wp2_with fail
          with_reducible refine (owithin_yes _ _ _ _ (by omega) (by omega)).mono ?_
          rintro e w1 ⟨rfl, rfl⟩
          go_wp2_with fail
          with_reducible refine (owithin_yes _ _ _ _ (by omega) (by omega)).mono ?_
          rintro e w1 ⟨rfl, rfl⟩
          go_wp2_with fail
          go_loopw [14, 15, 16, 17, 18] (fun v i _ _ _ wr => ∃ q : Nat, q ≤ m ∧ i = .int .i64 ((f + q : Nat) : Int) ∧ wr.ownsRow w.heap.size 9 1 v (codesL p n k f q).length ((codesL p n k f q).map Value.string) ∧ Below w.heap.size w wr) (fun _ i _ _ _ _ => f + m - (intOf i).toNat)
          case atStart => exact ⟨0, Nat.zero_le _, rfl, World.ownsRow_nil _ _ _ _, Below.refl _ _⟩
          case round =>
            obtain ⟨q, hq, rfl, hown, hB⟩ := hrel
            by_cases hlt : q < m
            · have HL := Lib.hid (codesL_succ p n k f q)
              have HLL := Lib.hid (codesL_len p n k f q)
              have hll : (codesL p n k f q).length ≤ 1000 := by rw [HLL.out]; omega
              have HVq := Lib.hid (HV.out (f + q))
              have HOW := Lib.hid hown
              have HBr := Lib.hid hB
              have hBz := hB.size
              obtain ⟨N, hN⟩ : ∃ N, f + q = N := ⟨_, rfl⟩
              have HN := Lib.hid hN
              rw [hN] at HL HVq
              have hNP : N < P := by omega
              have hNm : N < f + m := by omega
              generalize codesL p n k f q = l at *
              generalize codeAt p n k N = cd at *
              have CT := Lib.hid (fun w => CA.out N w (by omega) (by omega) (by omega))
              clear hown hB CA HV
              rw [hN]
              clear hN
              have hr : N * 7919 % P < P := Nat.mod_lt _ (by omega)
              have HM := Lib.hid (show (N * 7919 % P + k) % P = (N * 7919 + k) % P by rw [Nat.add_mod, Nat.mod_mod, ← Nat.add_mod])
              generalize N * 7919 % P = r at *
              go_wp2_with fail
              with_reducible refine (CT.out _).mono ?_
              rintro e w2 ⟨rfl, kk, rfl⟩
              have hv : ((r : Int) + (k : Int)) % (P : Int) = (((r + k) % P : Nat) : Int) := by rw [Int.natCast_emod]; simp
              have hPne : ¬ P = 0 := by omega
              have hvl : (r + k) % P < P := Nat.mod_lt _ (by omega)
              generalize (r + k) % P = v at *
              rw [← HM.out] at HVq
              have HOW2 := Lib.hid (show (wr.drewN kk).ownsRow w.heap.size 9 1 _ l.length (l.map Value.string) from HOW.out)
              have HB2 := Lib.hid (below_drewN HBr.out kk)
              have hz2 : w.heap.size ≤ (wr.drewN kk).heap.size := hBz
              clear HOW HBr CT HM
              obtain ⟨W, hW⟩ : ∃ W, wr.drewN kk = W := ⟨_, rfl⟩
              rw [hW] at HOW2 HB2 hz2 ⊢
              clear hW
              have HV0 := Lib.hid hv
              go_wp2_with (first | (refine wpList_make_row _ rfl _ _ 190 rfl 5 i1 (.int .u8 0) Tryd.underlying190 hi1 hy0 hy1 rfl n (by go_simp) (by go_simp) (by rw [hy2]; omega) (by unfold maxLen; omega) ?_) | fail)
              intro wm hR hgm hzm
              clear hv
              have HHR := Lib.hid (fun j => show dgF v n n j = if j < n then .int .u8 0 else .int .u8 ((sgL.getD (v / pw (n - 1 - j) % 31) 0).toNat : Int) from rfl)
              have HR0 : Hid (RowG wm W.heap.size n (dgF v n n)) := Lib.hid (hR.congr fun j hj => by rw [HHR.out, if_pos hj])
              have HBm : Hid (Below W.heap.size W wm) := Lib.hid ((Below.refl _ _).grown hgm (Nat.le_refl _) (by simp))
              have HVP := Lib.hid (show v = v / pw (n - n) by simp [pw])
              have en : (n : Int) - 1 = ((n : Int) - 1) := rfl
              clear hR hgm hzm en
              go_wp2_with fail
              go_loopw [16, 18] (fun x i wx => ∃ (k' V : Nat), k' ≤ n ∧ i = .int .i64 ((k' : Int) - 1) ∧ x = .int .i64 V ∧ V = v / pw (n - k') ∧ V ≤ v ∧ RowG wx W.heap.size n (dgF v n k') ∧ Below W.heap.size W wx) (fun _ i _ => (intOf i + 1).toNat)
              case atStart => exact ⟨n, v, Nat.le_refl _, rfl, rfl, HVP.out, Nat.le_refl _, HR0.out, HBm.out⟩
              case round =>
                obtain ⟨k', V, hk', rfl, rfl, hV, hVv, hRx, hBx⟩ := hrel
                clear HR0 HBm HVP
                cases k' with
                | zero =>
                  have hcv := string_of_row hRx
                  have hbs : (⟨(digs v n).toArray⟩ : ByteArray).size = n := by
                    show (digs v n).toArray.size = n
                    rw [List.size_toArray, digs_len]
                  generalize (⟨(digs v n).toArray⟩ : ByteArray) = D at *
                  have hbs2 : D.size ≤ 11 := by omega
                  have hz : ¬ (9223372036854775807 < p.size + D.size) := by omega
                  have CS := Lib.hid (fun w => seal_any (p ++ D) w (by rw [ByteArray.size_append]; omega))
                  rw [← HVq.out] at CS
                  have own5 := HOW2.out.kept (grown_of_below hBx none) (Classical.em _)
                  have HOWx := Lib.hid own5
                  have HBx := Lib.hid (HB2.out.trans (hBx.mono hz2))
                  have hzx : w.heap.size ≤ wr.heap.size := by have := hBx.size; omega
                  clear hbs hRx hBx hV hVv
                  go_wp2_with fail
                  with_reducible refine (CS.out _).mono ?_
                  rintro e w3 ⟨rfl, rfl⟩
                  clear hcv
                  go_wp2_with (at_builtin; refine wpList_append_own _ rfl _ _ 47 rfl w.heap.size 9 i0 _ 1 16 Tryd.underlying47 hi hz0 hz1 hz2' rfl (by decide) _ _ _ rfl (own5.alloc _) ⟨wr.heap.size, 0, none⟩ 1 1 [.string cd] rfl rfl ?c1 ?c2 ?c3 ?c4 ?c5 ?_)
                  case c1 => exact cells_new wr #[.string cd] 9
                  case c2 => simp [Value.oneCell']
                  case c3 => unfold maxLen; omega
                  case c4 => omega
                  case c5 => simp; omega
                  intro v2 w6 own6 hgrow6 hne6
                  have HOW6 : Hid (w6.ownsRow w.heap.size 9 1 v2 (l ++ [cd]).length ((l ++ [cd]).map Value.string)) := Lib.hid (by
                    rw [List.length_append, List.length_singleton, List.map_append]
                    exact own6)
                  have HB6 := Lib.hid ((HBx.out.alloc hzx (.cells #[.string cd] 9)).grown hgrow6 (by simp; omega) (fun j hj => (HOWx.out.lt j hj).1))
                  clear own6 hgrow6 hne6 own5
                  have hNe : (N : Int) + 1 = ((f + (q + 1) : Nat) : Int) := by have := HN.out; omega
                  have HNe := Lib.hid hNe
                  clear hNe
                  go_wp2_with fail
                  go_roundw
                  case rel => exact ⟨q + 1, by omega, congrArg _ HNe.out, by rw [HL.out]; exact HOW6.out, HB6.out⟩
                  case measure => simp [intOf]; omega
                | succ k' =>
                  have e1 : ((k' + 1 : Nat) : Int) - 1 = (k' : Int) := by omega
                  rw [e1]
                  clear e1
                  obtain ⟨d, hd⟩ : ∃ d, V % 31 = d := ⟨_, rfl⟩
                  have hd31 : d < 31 := by rw [← hd]; exact Nat.mod_lt _ (by omega)
                  have hdi : (V : Int) % 31 = (d : Int) := by omega
                  have hdg := fun w => run_index_sg w d hd31
                  have HCH : Hid (sgL.getD d 0 = sgL.getD (v / pw (n - 1 - k') % 31) 0) := Lib.hid (by rw [← hd, hV, show n - (k' + 1) = n - 1 - k' by omega])
                  generalize sgL.getD d 0 = ch at *
                  have hc := hRx.cell k' (by omega)
                  have hfz := hRx.free k' (by omega)
                  have HRx := Lib.hid hRx
                  have HBx := Lib.hid hBx
                  have HVx := Lib.hid hV
                  have HDx := Lib.hid hd
                  clear hRx hBx hV hd
                  obtain ⟨u, hu⟩ : ∃ u, dgF v n (k' + 1) k' = u := ⟨_, rfl⟩
                  rw [hu] at hc
                  clear hu
                  go_wp2_with fail
                  refine ⟨⟨k', V / 31, by omega, rfl, by go_num, ?_, by omega, ?_, ?_⟩, by simp [intOf]⟩
                  · have h := HVx.out
                    rw [h, show n - k' = (n - (k' + 1)) + 1 by omega, div_pw]
                  · rw [HCH.out]
                    exact (HRx.out.set k' (by omega) _).congr fun j _ => dgF_set v n k' j
                  · exact HBx.out.setCell (by show W.heap.size ≤ W.heap.size; omega) _
            · obtain rfl : q = m := by omega
              have HOW := Lib.hid hown
              have HBr := Lib.hid hB
              clear hown hB
              go_wp2_with fail
              go_ret2
              exact SLOut.own HOW.out HBr.out (by omega)
  · obtain rfl : O = ([], E) := HO.out.trans (if_pos hE0)
    go_wp2_with fail
    go_ret2
    exact SLOut.nil (Below.refl _ _)

set_option maxRecDepth 100000 in
set_option maxHeartbeats 4000000 in
theorem BatchOf_any (p : ByteArray) (c key frm many : Int) (w : World) (hp : p.size ≤ 100) (hf0 : -100000 ≤ frm) (hf1 : frm ≤ 100000) (hm0 : -100000 ≤ many) (hm1 : many ≤ 100000) :
    Calls Tryd.prog 83 #[.string p, .int .i64 c, .int .i64 key, .int .i64 frm, .int .i64 many] w (SLOut w (batchO p c key frm many).1 (batchO p c key frm many).2) := by
  obtain ⟨i0, hi, hz0, hz1, hz2'⟩ := info_parts infoStr
  obtain ⟨O, hO⟩ : ∃ O, batchO p c key frm many = O := ⟨_, rfl⟩
  rw [hO]
  have HO := Lib.hid hO.symm
  unfold batchO at HO
  clear hO
  have C1 := Lib.hid (fun w => BatchFault_any p c key w hp)
  obtain ⟨E, hE⟩ : ∃ E, batchE p c key = E := ⟨_, rfl⟩
  have HOK := Lib.hid (fun h : E = 0 => batchE_ok (hE.trans h))
  rw [hE] at HO C1
  clear hE
  go_enter Tryd.func83, Tryd.ntmps83
  go_wp2_with fail
  with_reducible refine (C1.out _).mono ?_
  rintro e w1 ⟨rfl, b1⟩
  by_cases hE0 : E = 0
  · have HO1 := Lib.hid (HO.out.trans (if_neg (by simpa using hE0)))
    obtain ⟨hp12, hs, n, k, rfl, hn3, hn11, rfl, hkP⟩ := HOK.out hE0
    subst hE0
    clear HO HOK
    simp only [Int.toNat_natCast] at HO1
    have CP := Lib.hid (fun w => space_any n w hn11)
    have CA := Lib.hid (fun i w hi => codeOfNumber_any p n k i w hp12 hs hn3 hn11 hkP hi)
    have hPb := pw_le n hn11
    have hP3 := pw_mono hn3
    have e3 : pw 3 = 29791 := rfl
    rw [e3] at hP3
    have HBB := Lib.hid (show batchBad (n : Int) frm many = (decide (frm < 0) || decide ((pw n : Int) ≤ frm) || decide (many < 0) || decide (1000 < many) || decide ((pw n : Int) < frm + many)) from by unfold batchBad; rw [Int.toNat_natCast])
    clear hs e3
    obtain ⟨B, hB⟩ : ∃ B, batchBad (n : Int) frm many = B := ⟨_, rfl⟩
    rw [hB] at HO1 HBB
    clear hB
    obtain ⟨P, hP⟩ : ∃ P, pw n = P := ⟨_, rfl⟩
    rw [hP] at hkP CP CA hPb hP3 HBB
    clear hP
    have HB1 := Lib.hid b1
    have hB1 := b1.size
    clear b1
    by_cases h0 : frm < 0
    · obtain rfl : B = true := by rw [HBB.out]; simp; omega
      obtain rfl : O = ([], 1) := HO1.out.trans (if_pos rfl)
      go_wp2_with fail
      go_ret2
      exact SLOut.nil HB1.out
    · obtain ⟨f, rfl⟩ := Int.eq_ofNat_of_zero_le (show 0 ≤ frm by omega)
      clear h0
      by_cases h1 : P ≤ f
      · obtain rfl : B = true := by rw [HBB.out]; simp; omega
        obtain rfl : O = ([], 1) := HO1.out.trans (if_pos rfl)
        go_wp2_with fail
        with_reducible refine (CP.out _).mono ?_
        rintro e w2 ⟨rfl, rfl⟩
        go_wp2_with fail
        go_ret2
        exact SLOut.nil HB1.out
      · have hd1 : decide (P ≤ f) = false := decide_eq_false h1
        by_cases h2 : many < 0
        · obtain rfl : B = true := by rw [HBB.out]; simp; omega
          obtain rfl : O = ([], 1) := HO1.out.trans (if_pos rfl)
          go_wp2_with fail
          with_reducible refine (CP.out _).mono ?_
          rintro e w2 ⟨rfl, rfl⟩
          go_wp2_with fail
          go_ret2
          exact SLOut.nil HB1.out
        · obtain ⟨m, rfl⟩ := Int.eq_ofNat_of_zero_le (show 0 ≤ many by omega)
          clear h2
          by_cases h3 : 1000 < m
          · obtain rfl : B = true := by rw [HBB.out]; simp; omega
            obtain rfl : O = ([], 1) := HO1.out.trans (if_pos rfl)
            have hd3 : decide (1000 < (m : Int)) = true := by simp; omega
            go_wp2_with fail
            with_reducible refine (CP.out _).mono ?_
            rintro e w2 ⟨rfl, rfl⟩
            go_wp2_with fail
            go_ret2
            exact SLOut.nil HB1.out
          · have hd3 : decide (1000 < (m : Int)) = false := by simp; omega
            by_cases h4 : P < f + m
            · obtain rfl : B = true := by rw [HBB.out]; simp; omega
              obtain rfl : O = ([], 1) := HO1.out.trans (if_pos rfl)
              have hd4 : decide ((P : Int) < (f : Int) + (m : Int)) = true := by simp; omega
              go_wp2_with fail
              with_reducible refine (CP.out _).mono ?_
              rintro e w2 ⟨rfl, rfl⟩
              go_wp2_with fail
              with_reducible refine (CP.out _).mono ?_
              rintro e w3 ⟨rfl, rfl⟩
              go_wp2_with fail
              go_ret2
              exact SLOut.nil HB1.out
            · have hd4 : decide ((P : Int) < (f : Int) + (m : Int)) = false := by simp; omega
              obtain rfl : B = false := by rw [HBB.out]; simp; omega
              have HO2 := Lib.hid (HO1.out.trans (if_neg (by decide)))
              simp only [Int.toNat_natCast] at HO2
              obtain rfl : O = (codesL p n k f m, 0) := HO2.out
              go_wp2_with fail
              with_reducible refine (CP.out _).mono ?_
              rintro e w2 ⟨rfl, rfl⟩
              go_wp2_with fail
              with_reducible refine (CP.out _).mono ?_
              rintro e w3 ⟨rfl, rfl⟩
              have hm3 : m ≤ 1000 := by omega
              clear HO1 HO2 HBB C1 CP
              go_wp2_with fail
              go_loopw [13, 14, 47] (fun v _ i wr => ∃ q : Nat, q ≤ m ∧ i = .int .i64 (q : Int) ∧ wr.ownsRow w1.heap.size 9 1 v (codesL p n k f q).length ((codesL p n k f q).map Value.string) ∧ Below w1.heap.size w1 wr) (fun _ _ i _ => m - (intOf i).toNat)
              case atStart => exact ⟨0, Nat.zero_le _, rfl, World.ownsRow_nil _ _ _ _, Below.refl _ _⟩
              case round =>
                obtain ⟨q, hq, rfl, hown, hB⟩ := hrel
                by_cases hlt : q < m
                · have HL := Lib.hid (codesL_succ p n k f q)
                  have HLL := Lib.hid (codesL_len p n k f q)
                  have hll : (codesL p n k f q).length ≤ 1000 := by rw [HLL.out]; omega
                  have HOW := Lib.hid hown
                  have HBr := Lib.hid hB
                  have hBz := hB.size
                  have CC : Hid (∀ w, Calls Tryd.prog 161 #[.string p, .int .i64 (n : Int), .int .i64 (k : Int), .int .i64 ((f : Int) + (q : Int))] w fun e w' => e = .returned (.string (codeAt p n k (f + q))) ∧ Below w.heap.size w w') := Lib.hid (fun w => by
                    have := CA.out (f + q) w (by omega)
                    rw [Int.natCast_add] at this
                    exact this)
                  generalize codesL p n k f q = l at *
                  generalize codeAt p n k (f + q) = cd at *
                  clear hown hB CA
                  go_wp2_with fail
                  with_reducible refine (CC.out _).mono ?_
                  rintro e w4 ⟨rfl, b4⟩
                  have own5 := HOW.out.kept (grown_of_below b4 none) (Classical.em _)
                  have HOWx := Lib.hid own5
                  have HBx := Lib.hid (HBr.out.trans (b4.mono hBz))
                  have hzx : w1.heap.size ≤ w4.heap.size := by have := b4.size; omega
                  clear HOW HBr b4 CC
                  go_wp2_with (at_builtin; refine wpList_append_own _ rfl _ _ 47 rfl w1.heap.size 9 i0 _ 1 16 Tryd.underlying47 hi hz0 hz1 hz2' rfl (by decide) _ _ _ rfl (own5.alloc _) ⟨w4.heap.size, 0, none⟩ 1 1 [.string cd] rfl rfl ?c1 ?c2 ?c3 ?c4 ?c5 ?_)
                  case c1 => exact cells_new w4 #[.string cd] 9
                  case c2 => simp [Value.oneCell']
                  case c3 => unfold maxLen; omega
                  case c4 => omega
                  case c5 => simp; omega
                  intro v2 w6 own6 hgrow6 hne6
                  have HOW6 : Hid (w6.ownsRow w1.heap.size 9 1 v2 (l ++ [cd]).length ((l ++ [cd]).map Value.string)) := Lib.hid (by
                    rw [List.length_append, List.length_singleton, List.map_append]
                    exact own6)
                  have HB6 := Lib.hid ((HBx.out.alloc hzx (.cells #[.string cd] 9)).grown hgrow6 (by simp; omega) (fun j hj => (HOWx.out.lt j hj).1))
                  clear own6 hgrow6 hne6 own5
                  go_wp2_with fail
                  go_roundw
                  case rel => exact ⟨q + 1, by omega, by go_num, by rw [HL.out]; exact HOW6.out, HB6.out⟩
                  case measure => simp [intOf]; omega
                · obtain rfl : q = m := by omega
                  have HOW := Lib.hid hown
                  have HBr := Lib.hid (HB1.out.trans (hB.mono hB1))
                  clear hown hB
                  go_wp2_with fail
                  go_ret2
                  exact SLOut.own HOW.out HBr.out (by omega)
  · obtain rfl : O = ([], E) := HO.out.trans (if_pos hE0)
    go_wp2_with fail
    go_ret2
    exact SLOut.nil b1
end Go.Proofs.YtdnikegakcdcnaaDoor
