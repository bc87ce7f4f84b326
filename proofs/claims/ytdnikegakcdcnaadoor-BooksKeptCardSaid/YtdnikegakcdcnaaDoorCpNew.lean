/- offer.NewBook (printed by gen_cpnew.py). -/
import Derived.Test.YtdnikegakcdcnaaDoorCheckCp
import Derived.Test.YtdnikegakcdcnaaDoorCpMap
import Derived.Test.YtdnikegakcdcnaaDoorKp
import Derived.Deep.RegionHeld3
import Derived.Deep.DeepCutAuto
import Derived.Deep.QuietTactic
import Derived.BigQuiet
import Derived.StillTailTactics
import Derived.BigRegion
set_option linter.unusedVariables false
namespace Go.Proofs.YtdnikegakcdcnaaDoor
open Go.RowKit

/-- a book that was just made -/
def NbNew (w : World) (l : List Cp) (m : Nat) (w' : World) : Prop :=
  w.heap.size ≤ m ∧ w'.heap[m + 1]? = some (.cells #[.map (some m), .slice none 0 0] 148 (0, 0)) ∧ ∃ n, CpMap w' m n l
def NbOut (w : World) (l : List Cp) (e : Ending) (w' : World) : Prop :=
  Below w.heap.size w w' ∧ ((cpE l ≠ 0 ∧ e = .returned (.tuple #[.pointer none, .int .i64 (cpE l)])) ∨ (cpE l = 0 ∧ ∃ m, e = .returned (.tuple #[.pointer (some ⟨m + 1, 0, none⟩), .int .i64 0]) ∧ NbNew w l m w'))
theorem NbOut.no {w w' : World} {l : List Cp} {E : Int} (hE : E ≠ 0) (h : cpE l = E) (hb : Below w.heap.size w w') : NbOut w l (.returned (.tuple #[.pointer none, .int .i64 E])) w' := by
  subst h
  exact ⟨hb, .inl ⟨hE, rfl⟩⟩
/-- the header of the book that is being made -/
def NbH (w0 w : World) (m : Nat) : Prop := w.heap[m + 1]? = some (.cells #[.map (some m), .slice none 0 0] 148 (0, 0)) ∧ Below w0.heap.size w0 w
theorem NbH.kept {w0 w w' : World} {m : Nat} {row : Option Nat} (h : NbH w0 w m) (hg : w.grownBy w' row) (hne : some (m + 1) ≠ row) (hr : ∀ q, row = some q → w0.heap.size ≤ q) : NbH w0 w' m := by
  have hl : m + 1 < w.heap.size := by
    rcases Nat.lt_or_ge (m + 1) w.heap.size with h' | h'
    · exact h'
    · have := h.1; rw [Array.getElem?_eq_none h'] at this; cases this
  exact ⟨(hg.block _ hl hne).trans h.1, ⟨hg.os.trans h.2.os, hg.tape.trans h.2.tape, hg.output.trans h.2.output, Nat.le_trans h.2.size hg.size, fun i hi => (hg.block i (Nat.lt_of_lt_of_le hi h.2.size) (fun e => by have := hr i e.symm; omega)).trans (h.2.block i hi)⟩⟩
theorem NbH.below {w0 w w' : World} {m : Nat} (h : NbH w0 w m) (hb : Below w.heap.size w w') : NbH w0 w' m := h.kept (grown_of_below hb none) (by simp) (by simp)
theorem NbH.alloc {w0 w : World} {m : Nat} (h : NbH w0 w m) (o : Obj) : NbH w0 (w.alloc o) m := h.below ((Below.refl _ _).alloc (Nat.le_refl _) o)
theorem NbH.cell {w0 w : World} {m : Nat} (h : NbH w0 w m) : w.cell? ⟨m + 1, 0, none⟩ = some (.map (some m)) ∧ m + 1 < w.heap.size := by
  refine ⟨by simp [World.cell?, h.1], ?_⟩
  rcases Nat.lt_or_ge (m + 1) w.heap.size with h' | h'
  · exact h'
  · have := h.1; rw [Array.getElem?_eq_none h'] at this; cases this
theorem NbH.start (w : World) : NbH w ((w.alloc (.map #[] 0)).alloc (.cells #[.map (some w.heap.size), .slice none 0 0] 148)) w.heap.size := by
  have h := heap_alloc_new (w.alloc (.map #[] 0)) (.cells #[.map (some w.heap.size), .slice none 0 0] 148)
  rw [World.size_alloc] at h
  exact ⟨h, ((Below.refl w.heap.size w).alloc (Nat.le_refl _) _).alloc (by simp) _⟩

set_option maxRecDepth 100000 in
set_option maxHeartbeats 8000000 in
theorem NewBook_any (a : Option Addr) (l : List Cp) (n c : Nat) (w : World) (hn : l.length = n) (hn1 : n ≤ 50) (hc : n ≤ c) (hc' : c ≤ maxLen) (hI : RAt w a 6 Cp.cells l) (hok : ∀ x ∈ l, x.ok) :
    Calls Tryd.prog 35 #[.slice a n c] w (NbOut w l) := by
  unfold maxLen at hc'
  have hmm := @run_makeMap Tryd.prog
  have HN := Lib.hid hn
  have HI := Lib.hid hI
  have HOK := Lib.hid hok
  have HH0 := Lib.hid (NbH.start w)
  have HM0 := Lib.hid ((CpMap.made w).alloc (.cells #[.map (some w.heap.size), .slice none 0 0] 148))
  obtain ⟨m, hm⟩ : ∃ m, w.heap.size = m := ⟨_, rfl⟩
  have HMS := Lib.hid hm
  clear hn hI hok
  go_enter Tryd.func35, Tryd.ntmps35
  go_wp2_with fail
  rw [hm] at HH0 HM0
  clear hm
  go_loopw [6, 7, 8, 9, 18] (fun _ _ _ _ i wr => ∃ k : Nat, k ≤ n ∧ i = .int .i64 k ∧ NbH w wr m ∧ CpInv l k ∧ CpMap wr m k (l.take k)) (fun _ _ _ _ i _ => n - (intOf i).toNat)
  case atStart => exact ⟨0, Nat.zero_le _, rfl, HH0.out, CpInv.zero l, HM0.out⟩
  case round =>
    obtain ⟨k, hk, rfl, hH, hV, hM⟩ := hrel
    have HH := Lib.hid hH
    have HM := Lib.hid hM
    have hB := hH.2
    clear hM hmm HH0 HM0
    by_cases hlt : k < n
    · have hkl : k < l.length := by have := HN.out; omega
      obtain ⟨p, off, rfl, hp, c0, c1, c2, c3, c4, c5⟩ := (HI.out.below hB).at6 hkl (v0 := .string l[k].code) (v1 := .string l[k].offer) (v2 := .int .i64 l[k].most) (v3 := .int .i64 l[k].each) (v4 := .int .i64 l[k].from_) (v5 := .int .i64 l[k].to_) rfl
      obtain ⟨ok1, ok2, ok3, ok4, ok5, ok6, ok7, ok8, ok9, ok10⟩ := HOK.out l[k] (List.getElem_mem hkl)
      have HV := Lib.hid (hV.step hkl)
      have HE := Lib.hid (show cstepE (l.take k) l[k] = cE (codeE l[k].code) (hasS ((l.take k).map Cp.code) l[k].code) (keyB l[k].offer) (cpB l[k]) from rfl)
      have HNO := Lib.hid (cpB_no l[k])
      have HYES := Lib.hid (cpB_yes l[k])
      have HT := Lib.hid (show l.take (k + 1) = l.take k ++ [l[k]] from List.take_succ_eq_append_getElem hkl)
      generalize l[k] = x at *
      obtain ⟨code, offer, most, each, from_, to_⟩ := x
      simp only at c0 c1 c2 c3 c4 c5 ok1 ok2 ok3 ok4 ok5 ok6 ok7 ok8 ok9 ok10 HNO HYES HE
      have C0 := Lib.hid (fun w => CheckCode_any code w (by omega))
      have C1 := Lib.hid (fun w => isKey_any offer w (by unfold maxLen; omega))
      have HLK := Lib.hid (fun w' (h : CpMap w' m k (l.take k)) => h.look code (by unfold maxLen; omega))
      have HGA := Lib.hid (show ∃ G1 G2 G3 G4 G5 G6, (cpGet (l.take k) code).agg = .agg #[.string G1, .string G2, .int .i64 G3, .int .i64 G4, .int .i64 G5, .int .i64 G6] from ⟨_, _, _, _, _, _, rfl⟩)
      obtain ⟨G1, G2, G3, G4, G5, G6, hga⟩ := HGA.out
      rw [hga] at HLK
      obtain ⟨b2, hb2⟩ : ∃ b, hasS ((l.take k).map Cp.code) code = b := ⟨_, rfl⟩
      rw [hb2] at HE HLK
      have HB2 := Lib.hid hb2
      clear hb2 hga HGA
      generalize cpB ⟨code, offer, most, each, from_, to_⟩ = b3 at *
      generalize keyB offer = b1 at *
      generalize codeE code = ce at *
      have X0 := Lib.hid (XB.new wr [.string code, .string offer, .int .i64 most, .int .i64 each, .int .i64 from_, .int .i64 to_] 144)
      have HH1 := Lib.hid (HH.out.alloc (.cells #[.string code, .string offer, .int .i64 most, .int .i64 each, .int .i64 from_, .int .i64 to_] 144))
      have HM1 := Lib.hid (HM.out.alloc (.cells #[.string code, .string offer, .int .i64 most, .int .i64 each, .int .i64 from_, .int .i64 to_] 144))
      simp only [List.toArray] at X0
      clear hV HH HM hH
      go_wp2_with fail
      with_reducible refine (C0.out _).mono ?_
      rintro e w1 ⟨rfl, rfl⟩
      by_cases hce : ce = 0
      · subst hce
        go_upto_region 10 with (fail)
        generalize hw1 : wr.alloc (.cells #[.string code, .string offer, .int .i64 most, .int .i64 each, .int .i64 from_, .int .i64 to_] 144) = w1 at *
        obtain ⟨x0, x1, x2, x3, x4, x5⟩ := X0.out.at6
        have hq := X0.out.1
        obtain ⟨y0, y1⟩ := HH1.out.cell
        generalize wr.heap.size = q at *
        have HWZ := Lib.hid (HH1.out.2.size)
        have L1 := HLK.out w1.drew HM1.out
        have L2 := HLK.out (w1.alloc (.cells #[.string ⟨#[]⟩, .string ⟨#[]⟩, .int .i64 0, .int .i64 0, .int .i64 0, .int .i64 0] 144)).drew (CpMap.alloc HM1.out _)
        have hqd : q < w1.drew.heap.size := hq
        have hmd : m + 1 < w1.drew.heap.size := y1
        go_region
        all_goals
          have HX3 := Lib.hid ((X0.out.alloc (.cells #[.string G1, .string G2, .int .i64 G3, .int .i64 G4, .int .i64 G5, .int .i64 G6] 144)).drewN 1)
          have HH3 := Lib.hid ((HH1.out.alloc (.cells #[.string G1, .string G2, .int .i64 G3, .int .i64 G4, .int .i64 G5, .int .i64 G6] 144)).below (Below.refl _ _).drew)
          have HM3 := Lib.hid ((HM1.out.alloc (.cells #[.string G1, .string G2, .int .i64 G3, .int .i64 G4, .int .i64 G5, .int .i64 G6] 144)).drew)
          clear x0 x1 x2 x3 x4 x5 hq y0 y1 HWZ L1 L2 hqd hmd X0 HH1 HM1 HLK
          have HX3 : Hid (XB (w1.alloc (.cells #[.string G1, .string G2, .int .i64 G3, .int .i64 G4, .int .i64 G5, .int .i64 G6] 144)).drew q [.string code, .string offer, .int .i64 most, .int .i64 each, .int .i64 from_, .int .i64 to_]) := HX3
          generalize (w1.alloc (.cells #[.string G1, .string G2, .int .i64 G3, .int .i64 G4, .int .i64 G5, .int .i64 G6] 144)).drew = w3 at *
          obtain ⟨x0, x1, x2, x3, x4, x5⟩ := HX3.out.at6
          have hq := HX3.out.1
          obtain ⟨y0, y1⟩ := HH3.out.cell
          have HB3 := Lib.hid (HH3.out.2)
          cases b2 with
          | true =>
            go_wp2_with fail
            go_ret2
            exact NbOut.no (by decide) ((HV.out.1 (by rw [HE.out]; simp [cE])).trans (HE.out.trans (by simp [cE]))) HB3.out
          | false =>
            go_wp2_with fail
            with_reducible refine (C1.out _).mono ?_
            rintro e w4 ⟨rfl, rfl⟩
            cases b1 with
            | false =>
              go_wp2_with fail
              go_ret2
              exact NbOut.no (by decide) ((HV.out.1 (by rw [HE.out]; simp [cE])).trans (HE.out.trans (by simp [cE]))) HB3.out
            | true =>
              by_cases h0 : most < 1 ∨ 1000000 < most
              · obtain rfl : b3 = false := HNO.out (by omega)
                clear HNO HYES
                go_wp2_with fail
                with_reducible refine (owithin_no _ _ _ _ h0).mono ?_
                rintro e w5 ⟨rfl, rfl⟩
                go_wp2_with fail
                go_ret2
                exact NbOut.no (by decide) ((HV.out.1 (by rw [HE.out]; simp [cE])).trans (HE.out.trans (by simp [cE]))) HB3.out
              · skip
                have p0a : 1 ≤ most := by omega
                have p0b : most ≤ 1000000 := by omega
                clear h0
                by_cases h1 : each < 1 ∨ 1000000 < each
                · obtain rfl : b3 = false := HNO.out (by omega)
                  clear HNO HYES
                  go_wp2_with fail
                  with_reducible refine (owithin_yes _ _ _ _ p0a p0b).mono ?_
                  rintro e w5 ⟨rfl, rfl⟩
                  go_wp2_with fail
                  with_reducible refine (owithin_no _ _ _ _ h1).mono ?_
                  rintro e w5 ⟨rfl, rfl⟩
                  go_wp2_with fail
                  go_ret2
                  exact NbOut.no (by decide) ((HV.out.1 (by rw [HE.out]; simp [cE])).trans (HE.out.trans (by simp [cE]))) HB3.out
                · skip
                  have p1a : 1 ≤ each := by omega
                  have p1b : each ≤ 1000000 := by omega
                  clear h1
                  by_cases h2 : from_ < 0 ∨ 4321439 < from_
                  · obtain rfl : b3 = false := HNO.out (by omega)
                    clear HNO HYES
                    go_wp2_with fail
                    with_reducible refine (owithin_yes _ _ _ _ p0a p0b).mono ?_
                    rintro e w5 ⟨rfl, rfl⟩
                    go_wp2_with fail
                    with_reducible refine (owithin_yes _ _ _ _ p1a p1b).mono ?_
                    rintro e w5 ⟨rfl, rfl⟩
                    go_wp2_with fail
                    with_reducible refine (omoment_any _ _).mono ?_
                    rintro e w5 ⟨rfl, rfl⟩
                    rw [momB_no h2]
                    go_wp2_with fail
                    go_ret2
                    exact NbOut.no (by decide) ((HV.out.1 (by rw [HE.out]; simp [cE])).trans (HE.out.trans (by simp [cE]))) HB3.out
                  · skip
                    have p2a : 0 ≤ from_ := by omega
                    have p2b : from_ ≤ 4321439 := by omega
                    clear h2
                    by_cases h3 : to_ < from_ + 1 ∨ 4321440 < to_
                    · obtain rfl : b3 = false := HNO.out (by omega)
                      clear HNO HYES
                      go_wp2_with fail
                      with_reducible refine (owithin_yes _ _ _ _ p0a p0b).mono ?_
                      rintro e w5 ⟨rfl, rfl⟩
                      go_wp2_with fail
                      with_reducible refine (owithin_yes _ _ _ _ p1a p1b).mono ?_
                      rintro e w5 ⟨rfl, rfl⟩
                      go_wp2_with fail
                      with_reducible refine (omoment_any _ _).mono ?_
                      rintro e w5 ⟨rfl, rfl⟩
                      rw [momB_yes p2a p2b]
                      go_wp2_with fail
                      with_reducible refine (owithin_no _ _ _ _ h3).mono ?_
                      rintro e w5 ⟨rfl, rfl⟩
                      go_wp2_with fail
                      go_ret2
                      exact NbOut.no (by decide) ((HV.out.1 (by rw [HE.out]; simp [cE])).trans (HE.out.trans (by simp [cE]))) HB3.out
                    · skip
                      have p3a : from_ + 1 ≤ to_ := by omega
                      have p3b : to_ ≤ 4321440 := by omega
                      clear h3
                      have HY := Lib.hid (HYES.out (by omega) (by omega) (by omega) (by omega) (by omega) (by omega) (by omega) (by omega))
                      obtain rfl : b3 = true := HY.out
                      have HI1 := Lib.hid (HV.out.2 HE.out)
                      clear HNO HYES HY
                      go_wp2_with fail
                      with_reducible refine (owithin_yes _ _ _ _ p0a p0b).mono ?_
                      rintro e w5 ⟨rfl, rfl⟩
                      go_wp2_with fail
                      with_reducible refine (owithin_yes _ _ _ _ p1a p1b).mono ?_
                      rintro e w5 ⟨rfl, rfl⟩
                      go_wp2_with fail
                      with_reducible refine (omoment_any _ _).mono ?_
                      rintro e w5 ⟨rfl, rfl⟩
                      rw [momB_yes p2a p2b]
                      go_wp2_with fail
                      with_reducible refine (owithin_yes _ _ _ _ p3a p3b).mono ?_
                      rintro e w5 ⟨rfl, rfl⟩
                      go_upto_region 17 with (fail)
                      go_still_tail 7, (by kernel_rfl)
                      have HH4 := Lib.hid (fun q => HH3.out.kept (grownBy_drewN (grown_same w3 none) q) (by simp) (by simp))
                      have HM4 := Lib.hid (fun q => (show CpMap (w3.drewN q) m k (l.take k) from HM3.out))
                      clear HH3 HM3 HX3 x0 x1 x2 x3 x4 x5 hq y0 y1
                      go_wp2_with (at_mapUpdate; refine wpList_update_cp _ rfl _ _ _ rfl m k (l.take k) rfl (HM4.out _) (by unfold maxLen; omega) ⟨code, offer, most, each, from_, to_⟩ rfl rfl (show code.size ≤ maxLen by unfold maxLen; omega) HB2.out ?_)
                      intro w6 hM6 hg6
                      have HM6 := Lib.hid hM6
                      have HH6 := Lib.hid ((HH4.out _).kept hg6 (by simp) (fun q e => by injection e with e; have := HMS.out; omega))
                      clear hM6 hg6 HH4 HM4
                      go_wp2_with fail
                      go_roundw
                      case rel => exact ⟨k + 1, by omega, by go_num, HH6.out, HI1.out, by rw [HT.out]; exact HM6.out⟩
                      case measure => simp [intOf]; omega
      · have HCE := Lib.hid hce
        have HB1 := Lib.hid (HH1.out.2)
        have hce1 : (ce == 0) = false := by simpa using hce
        have hce2 : (ce != 0) = true := by simpa using hce
        go_wp2_with fail
        go_ret2
        exact NbOut.no HCE.out ((HV.out.1 (by rw [HE.out]; simp [cE, HCE.out])).trans (HE.out.trans (if_pos HCE.out))) HB1.out
    · have HD := Lib.hid (hV.done (by have := HN.out; omega))
      obtain rfl : k = n := by omega
      have HTK := Lib.hid (show l.take k = l from List.take_of_length_le (by have := HN.out; omega))
      go_wp2_with fail
      go_ret2
      rw [HTK.out] at HM
      exact ⟨HH.out.2, .inr ⟨HD.out, m, rfl, Nat.le_of_eq HMS.out, HH.out.1, _, HM.out⟩⟩
end Go.Proofs.YtdnikegakcdcnaaDoor
