/- The walk of the statement CodesNumbered. -/
import Derived.Test.YtdnikegakcdcnaaDoorRow
import Derived.Test.YtdnikegakcdcnaaDoorRows
import Derived.Test.YtdnikegakcdcnaaDoorKp
import Derived.Test.YtdnikegakcdcnaaDoorNumber
import Derived.Test.YtdnikegakcdcnaaDoorCodeMake
import Derived.LaidMore
import Derived.Deep.DeepCutAuto
import Derived.Deep.CutBlock
set_option linter.unusedVariables false
namespace Go.Proofs.YtdnikegakcdcnaaDoor
open Go.RowKit

theorem Kp.strs {S : SC} {w : World} {a : Option Addr} {l : List ByteArray} (h : StrsAt w a l) (hg : ∀ p off, a = some ⟨p, off, none⟩ → p ≠ S.g) : Kp S (fun w => StrsAt w a l) w := fun w' k => h.grown k hg

theorem batchO_len (p : ByteArray) (c key frm many : Int) : (batchO p c key frm many).1.length ≤ 1000 := by
  unfold batchO
  split
  · simp
  · split
    · simp
    · rename_i h
      show (codesL _ _ _ _ _).length ≤ 1000
      rw [codesL_len]
      unfold batchBad at h
      simp at h
      omega

set_option maxRecDepth 100000 in
set_option maxHeartbeats 4000000 in
theorem codesNumbered_walk (a0 : Option Addr) (len0 cap0 : Nat) (z0 : List Int) (w : World) (w0 : IsRow .i64 w a0 len0 cap0 z0) (ht : True) :
    Calls Tryd.prog 8 #[.slice a0 len0 cap0] w fun e w' => e = .returned (.bool true) ∧ Below w.heap.size w w' := by
  obtain ⟨S, hBS, hp, s0, g0⟩ := strm_begin w0
  clear w0 ht
  go_enter Tryd.func8, Tryd.ntmps8
  go_wp2_with fail
  clear hp
  with_reducible refine (One_at S _ [⟨#[]⟩, ⟨#[88, 89]⟩, ⟨#[65, 66, 67, 68, 69, 70, 71, 72, 74, 75, 77, 78]⟩, ⟨#[65, 66, 67, 68, 69, 70, 71, 72, 74, 75, 77, 78, 80]⟩, ⟨#[120, 121]⟩] 5 _ _ _ _ s0 (by omega) rfl (by omega) (by omega) (by simp) (by simp)).mono ?_
  rintro e w1 ⟨p, hpm, rfl, k1, s1⟩
  have g1 := grown_trans g0 k1
  have hps : p.size ≤ 100 := by
    simp only [List.mem_cons, List.mem_nil_iff, or_false] at hpm
    rcases hpm with rfl | rfl | rfl | rfl | rfl <;> decide
  clear k1 g0 s0 hpm
  go_wp2_with fail
  with_reducible refine (pick_at S _ [3, 3, 4, 7, 11, 2, 12] 7 _ _ _ _ s1 (by omega) rfl (by omega) (by omega) (by simp) (by simp)).mono ?_
  rintro e w2 ⟨c, hcm, rfl, k2, s2⟩
  have g2 := grown_trans g1 k2
  clear k2 g1 s1 hcm
  go_wp2_with fail
  with_reducible refine (pick_at S _ [0, 5, 29790, 29791, -1] 5 _ _ _ _ s2 (by omega) rfl (by omega) (by omega) (by simp) (by simp)).mono ?_
  rintro e w3 ⟨key, hkm, rfl, k3, s3⟩
  have g3 := grown_trans g2 k3
  clear k3 g2 s2 hkm
  go_wp2_with fail
  with_reducible refine (next_any S _ _ _ s3 (by omega) (by omega)).mono ?_
  rintro e w4 ⟨f0, ⟨hf0, hf1, -⟩, rfl, k4, s4⟩
  have g4 := grown_trans g3 k4
  have hf2 := hf1 (by omega)
  clear k4 g3 s3 hf1
  go_wp2_with fail
  with_reducible refine (pick_at S _ [0, 1, 29790, 29791, 29780, -1, f0] 7 _ _ _ _ s4 (by omega) rfl (by omega) (by omega) (by simp) (by simp)).mono ?_
  rintro e w5 ⟨frm, hfm, rfl, k5, s5⟩
  have g5 := grown_trans g4 k5
  have hfb : -100000 ≤ frm ∧ frm ≤ 100000 := by
    simp only [List.mem_cons, List.mem_nil_iff, or_false] at hfm
    omega
  obtain ⟨hfb0, hfb1⟩ := hfb
  clear k5 g4 s4 hfm hf0 hf2
  go_wp2_with fail
  with_reducible refine (pick_at S _ [0, 1, 2, 11, 12, 1001, -1] 7 _ _ _ _ s5 (by omega) rfl (by omega) (by omega) (by simp) (by simp)).mono ?_
  rintro e w6 ⟨many, hmm, rfl, k6, s6⟩
  have g6 := grown_trans g5 k6
  have hmb : -100000 ≤ many ∧ many ≤ 100000 := by
    simp only [List.mem_cons, List.mem_nil_iff, or_false] at hmm
    omega
  obtain ⟨hmb0, hmb1⟩ := hmb
  clear k6 g5 s5 hmm
  have HEL := Lib.hid (batchO_el p c key frm many)
  have hLn := batchO_len p c key frm many
  have CB := Lib.hid (fun w => Batch_any p c key frm many w hps hfb0 hfb1 hmb0 hmb1)
  have CR := Lib.hid (fun w => BatchOf_any p c key frm many w hps hfb0 hfb1 hmb0 hmb1)
  generalize batchO p c key frm many = O at *
  obtain ⟨L, E⟩ := O
  have hLn' : L.length ≤ 1000 := hLn
  have HEL' := Lib.hid (show ∀ x ∈ L, x.size ≤ 500 from HEL.out)
  clear hLn HEL
  go_wp2_with fail
  with_reducible refine (CB.out _).mono ?_
  rintro e w7 ⟨xa, xc, rfl, hX, hxa, b7⟩
  have hS6 := strm_lt s6
  have HA7 := Lib.hid ((Kp.grown (grown_trans g6 (grown_of_below b7 (some S.g)))).and (Kp.strs (S := S) hX (fun p off e => by have := hxa p off e; omega)))
  have s7 := strm_below s6 b7
  clear b7 g6 s6 hX hxa hS6
  go_wp2_with fail
  with_reducible refine (CR.out _).mono ?_
  rintro e w8 ⟨ya, yc, rfl, hY, hya, b8⟩
  have hS7 := strm_lt s7
  have HA8 := Lib.hid ((HA7.out.below b8).and (Kp.strs (S := S) hY (fun p off e => by have := hya p off e; omega)))
  have s8 := strm_below s7 b8
  clear b8 s7 hY hya hS7 HA7 CB CR
  go_wp2_with fail
  with_reducible refine (equal_strs _ _ L _ _ _ _ rfl hLn' HA8.out.now.1.2 HA8.out.now.2).mono ?_
  rintro e w9 ⟨rfl, q9, rfl⟩
  have HA9 := Lib.hid (HA8.out.up (grownBy_drewN (grown_same _ _) q9))
  have s9 := strm_drewN s8 q9
  clear HA8 s8
  generalize w8.drewN q9 = w9 at *
  go_wp2_with fail
  with_reducible refine (code_any S _ _ s9 (by omega)).mono ?_
  rintro e w10 ⟨cd, hcd, rfl, k10, s10⟩
  have HA10 := Lib.hid (HA9.out.up k10)
  clear k10 s9 HA9
  generalize hn : L.length = n at *
  have HN := Lib.hid hn
  clear hn
  go_upto_region 11 with (fail)
  go_cut [74] (fun u wx => ∃ b : Bool, u = .bool b ∧ (b = true → 0 < n) ∧ w10.grownBy wx (some S.g) ∧ Strm wx S 190)
  case first =>
    by_cases hn0 : n = 0
    · subst hn0
      go_wp2_with fail
      go_meet
      exact ⟨false, rfl, (fun h => by cases h), grown_same _ _, strm_mono s10 (by omega)⟩
    · have hnp : 0 < n := by omega
      go_wp2_with fail
      with_reducible refine (flip_any S _ _ _ s10 (by omega) (by omega)).mono ?_
      rintro e w11 ⟨f, rfl, k11, s11⟩
      go_wp2_with fail
      go_meet
      exact ⟨!f, rfl, fun _ => hnp, k11, strm_mono s11 (by omega)⟩
  case rest =>
  obtain ⟨b, rfl, hbn, k11, s11⟩ := hcut
  have HA11 := Lib.hid (HA10.out.up k11)
  have HBN := Lib.hid hbn
  clear k11 s10 HA10 hbn
  generalize wc = w11 at *
  go_upto_if 74 with (fail)
  go_cut [13] (fun u wx => ∃ r, u = .string r ∧ r.size ≤ 500 ∧ w11.grownBy wx (some S.g) ∧ Strm wx S 200)
  case first =>
    cases b with
    | false =>
      go_wp2_with fail
      go_meet
      exact ⟨cd, rfl, hcd, grown_same _ _, strm_mono s11 (by omega)⟩
    | true =>
      have hnp := HBN.out rfl
      go_wp2_with fail
      with_reducible refine (next_any S _ _ _ s11 (by omega) (by omega)).mono ?_
      rintro e w12 ⟨i, ⟨i0, i1, -⟩, rfl, k12, s12⟩
      have hi1 := i1 (by omega)
      obtain ⟨i, rfl⟩ := Int.eq_ofNat_of_zero_le i0
      have hil : i < L.length := by have := HN.out; omega
      obtain ⟨p', off, rfl, -, hc⟩ := (HA11.out.up k12).now.2 i hil
      have hes := HEL'.out L[i] (List.getElem_mem hil)
      have HG12 := Lib.hid k12
      have hin : i < n := by omega
      generalize L[i] = r at *
      clear k12 i1 hil
      go_wp2_with fail
      go_meet
      exact ⟨r, rfl, hes, HG12.out, strm_mono s12 (by omega)⟩
  case rest =>
    obtain ⟨r, rfl, hrs, kx, sx⟩ := hcut
    have HG := Lib.hid (HA11.out.up kx).now.1.1
    clear kx HA11 s11 HEL' hcd HBN
    have hg0 := HG.out.size
    have CN := Lib.hid (fun w => Number_any p c key r w hps (by omega))
    have CR := Lib.hid (fun w => NumberOf_any p c key r w hps (by omega))
    generalize numO p c key r = N at *
    go_wp2_with fail
    with_reducible refine (CN.out _).mono ?_
    rintro e w13 ⟨rfl, b13⟩
    have HG13 := Lib.hid (grown_trans HG.out (grown_of_below b13 (some S.g)))
    clear b13 HG hg0
    go_wp2_with fail
    with_reducible refine (CR.out _).mono ?_
    rintro e w14 ⟨rfl, b14⟩
    have HG14 := Lib.hid (grown_trans HG13.out (grown_of_below b14 (some S.g)))
    clear b14 HG13
    go_wp2_with fail
    with_reducible refine (offers_any _).mono ?_
    rintro e w15 ⟨rfl, rfl⟩
    have hg := HG14.out
    have HB := Lib.hid (show Below w.heap.size w w14 from ⟨hg.os, hg.tape, hg.output, hg.size, fun i hi => hg.block i hi (by simp; omega)⟩)
    clear hg HG14
    go_wp2_with fail
    go_ret
    exact ⟨rfl, HB.out⟩
theorem codesNumbered_tabs {P : Prop} (_ : P) : True := trivial
end Go.Proofs.YtdnikegakcdcnaaDoor
