/- The reference's answers about conditions for records and schemas: SchemasFault, eventFault, typeFault, TypeFault (printed by gen_tyrf.py). -/
import Derived.Test.YtfdpfkdfglombaaGreatDoorCtA
import Derived.Test.YtfdpfkdfglombaaGreatDoorCkRf
import Derived.Deep.Cut
import Derived.Deep.CutBlock
import Derived.Deep.DeepCutAuto
import Derived.Test.YtfdpfkdfglombaaGreatDoorSgM
import Derived.Test.YtfdpfkdfglombaaGreatDoorCkSp
import Derived.Test.YtfdpfkdfglombaaGreatDoorCkMk
import Derived.Test.YtfdpfkdfglombaaGreatDoorMask
import Derived.Test.YtfdpfkdfglombaaGreatDoorPickAt
import Derived.Test.YtfdpfkdfglombaaGreatDoorRange
import Derived.Deep.RegionWith
import Derived.Deep.AppendLies
set_option linter.unusedVariables false
namespace Go.Proofs.YtfdpfkdfglombaaGreatDoor
open Go.RowKit

theorem keyB_size {s : ByteArray} (h : keyB s = true) : s.size ≠ 0 := by
  unfold keyB at h
  rw [Bool.and_eq_true, Bool.and_eq_true, decide_eq_true_eq] at h
  omega
/-- the name before, as the reference keeps it -/
def lstN (l : List Nn) (k : Nat) : ByteArray := if k = 0 then ⟨#[]⟩ else (l.getD (k - 1) default).name
def lstM (l : List Sm) (k : Nat) : ByteArray := if k = 0 then ⟨#[]⟩ else (l.getD (k - 1) default).name
theorem lstN_le {l : List Nn} {k : Nat} {s : ByteArray} (h : keyB s = true) : leN s (lstN l k) = (decide (0 < k) && leN s (l.getD (k - 1) default).name) := by
  unfold lstN
  by_cases h0 : k = 0
  · rw [if_pos h0, leN_nil (keyB_size h), decide_eq_false (by omega), Bool.false_and]
  · rw [if_neg h0, decide_eq_true (by omega), Bool.true_and]
theorem lstM_le {l : List Sm} {k : Nat} {s : ByteArray} (h : keyB s = true) : leN s (lstM l k) = (decide (0 < k) && leN s (l.getD (k - 1) default).name) := by
  unfold lstM
  by_cases h0 : k = 0
  · rw [if_pos h0, leN_nil (keyB_size h), decide_eq_false (by omega), Bool.false_and]
  · rw [if_neg h0, decide_eq_true (by omega), Bool.true_and]
theorem lstN_succ (l : List Nn) (k : Nat) (h : k < l.length) : lstN l (k + 1) = l[k].name := by
  unfold lstN
  rw [if_neg (by omega), Nat.add_sub_cancel, getN l k h]
theorem lstM_succ (l : List Sm) (k : Nat) (h : k < l.length) : lstM l (k + 1) = l[k].name := by
  unfold lstM
  rw [if_neg (by omega), Nat.add_sub_cancel, getM l k h]
theorem nnE_key {l : List Nn} {k : Nat} (h : k < l.length) : nnE l k = if keyB l[k].name = false then 5 else if decide (1 ≤ l[k].kind ∧ l[k].kind ≤ 4) = false then 4 else if leN l[k].name (lstN l k) = true then 7 else 0 := by
  unfold nnE ndX
  rw [getN l k h]
  by_cases hk : keyB l[k].name = false
  · rw [if_pos hk, if_pos hk]
  · rw [if_neg hk, if_neg hk, lstN_le (by simpa using hk)]
theorem smE_key {l : List Sm} {k : Nat} (h : k < l.length) : smE l k = if keyB l[k].name = false then 5 else if leN l[k].name (lstM l k) = true then 7 else nnsE l[k].needs := by
  unfold smE
  rw [getM l k h]
  by_cases hk : keyB l[k].name = false
  · rw [if_pos hk, if_pos hk]
  · rw [if_neg hk, if_neg hk, lstM_le (by simpa using hk)]

set_option maxRecDepth 100000 in
set_option maxHeartbeats 16000000 in
theorem SchemasFault_any (a : Option Addr) (l : List Sm) (n c : Nat) (w : World) (hn : l.length = n) (hI : SmL w a l) :
    Calls Tryz.prog 42 #[.slice a n c] w (IntO w (smsE l)) := by
  have hn1 : n ≤ 1000 := by have := hI.len; omega
  obtain ⟨V, hV⟩ : ∃ V, smsE l = V := ⟨_, rfl⟩
  rw [hV]
  have HV := Lib.hid hV.symm
  unfold smsE at HV
  rw [hn] at HV
  have HN := Lib.hid hn
  have HI := Lib.hid hI
  clear hV hn hI
  by_cases h10 : 60 < n
  · obtain rfl : V = 2 := HV.out.trans (if_pos h10)
    have hd : decide (60 < n) = true := decide_eq_true h10
    go_enter Tryz.func42, Tryz.ntmps42
    go_wp2_with fail
    go_ret
    exact ⟨rfl, Below.refl _ _⟩
  · have HV0 := Lib.hid (show V = goE (smE l) (n - 0) 0 from HV.out.trans (if_neg h10))
    have hd : decide (60 < n) = false := decide_eq_false h10
    clear HV
    go_enter Tryz.func42, Tryz.ntmps42
    go_wp2_with fail
    go_loopw [3, 14] (fun u i wr => ∃ k : Nat, k ≤ n ∧ i = .int .i64 k ∧ (∃ s, u = .string s ∧ Hid (lstM l k = s)) ∧ Below w.heap.size w wr ∧ Hid (V = goE (smE l) (n - k) k)) (fun _ i _ => n - (intOf i).toNat)
    case atStart => exact ⟨0, Nat.zero_le _, rfl, ⟨_, rfl, Lib.hid rfl⟩, Below.refl _ _, HV0⟩
    case round =>
      obtain ⟨k, hk, rfl, ⟨last, rfl, HLA⟩, hB0, hH⟩ := hrel
      by_cases hlt : k < n
      · have hkl : k < l.length := by have := HN.out; omega
        obtain ⟨p, off, rfl, hp, c0, c1⟩ := (HI.out.below hB0).row.at2s hkl
        obtain ⟨ok1, ok2, ok3, ok4⟩ := (HI.out.below hB0).ok l[k] (List.getElem_mem hkl)
        have HST := Lib.hid (show V = if smE l k = 0 then goE (smE l) (n - (k + 1)) (k + 1) else smE l k from hH.out.trans (goE_step (smE l) n k hlt))
        have HT := Lib.hid (smE_key hkl)
        rw [HLA.out] at HT
        have HLS := Lib.hid (lstM_succ l k hkl)
        generalize l[k] = x at *
        obtain ⟨name, na, nc, needs⟩ := x
        simp only at c0 c1 ok1 ok2 ok3 ok4 HT HLS
        have CK := Lib.hid (fun w => pKey_any name w (by unfold maxLen; omega))
        obtain ⟨b1, hb1⟩ : ∃ b, keyB name = b := ⟨_, rfl⟩
        obtain ⟨b3, hb3⟩ : ∃ b, leN name last = b := ⟨_, rfl⟩
        have hsp : (Op.bytesLess name.toList last.toList || name.toList == last.toList) = b3 := hb3
        obtain ⟨e5, he5⟩ : ∃ z, nnsE needs = z := ⟨_, rfl⟩
        obtain ⟨nn, hnn⟩ : ∃ z, needs.length = z := ⟨_, rfl⟩
        rw [hb1, hb3, he5] at HT
        rw [hb1] at CK
        have HE5 := Lib.hid he5.symm
        unfold nnsE at HE5
        rw [hnn] at HE5
        rw [hnn] at c1
        have HNN := Lib.hid hnn
        have hnn1 : nn ≤ 1000 := by have := ok2.len; omega
        have HOK := Lib.hid ok2.ok
        have HB := Lib.hid (hB0.alloc hB0.size (.cells #[.string name, .slice na nn nc] 67))
        have HX := Lib.hid (XB.new wr [.string name, .slice na nn nc] 67)
        have HNR := Lib.hid (ok2.row.alloc (.cells #[.string name, .slice na nn nc] 67))
        clear hb1 hb3 hH hB0 he5 hnn ok2 ok3 ok4 HLA
        go_wp2_with fail
        ((with_reducible refine (CK.out _).mono ?_); rintro e w1 ⟨rfl, hb⟩)
        have HB1 := Lib.hid (HB.out.trans (hb.mono HB.out.size))
        have HX1 := Lib.hid (HX.out.below hb)
        have HN1 := Lib.hid (HNR.out.below hb)
        clear hb HB HX HNR CK c0 c1
        cases b1 with
        | false =>
          have HR := Lib.hid (HST.out.trans (show _ = (5 : Int) by rw [HT.out]; simp))
          go_wp2_with fail
          go_ret
          exact ⟨ret_int HR.out.symm, HB1.out⟩
        | true =>
          rw [if_neg (show ¬ true = false by decide)] at HT
          have x0 := HX1.out.2 0 _ rfl
          have x1 := HX1.out.2 1 _ rfl
          cases b3 with
          | true =>
            have HR := Lib.hid (HST.out.trans (show _ = (7 : Int) by rw [HT.out]; simp))
            go_wp2_with fail
            go_ret
            exact ⟨ret_int HR.out.symm, HB1.out⟩
          | false =>
            rw [if_neg (show ¬ false = true by decide)] at HT
            by_cases h30 : 30 < nn
            · have hd3 : decide (30 < nn) = true := decide_eq_true h30
              have hd3' : decide (30 < (nn : Int)) = true := by simp; omega
              have HR := Lib.hid (HST.out.trans (show _ = (2 : Int) by rw [HT.out, HE5.out, if_pos h30]; simp))
              go_wp2_with fail
              go_ret
              exact ⟨ret_int HR.out.symm, HB1.out⟩
            · have hd3 : decide (30 < nn) = false := decide_eq_false h30
              have HE6 := Lib.hid (HE5.out.trans (if_neg h30))
              clear HE5
              go_wp2_with fail
              clear x0 x1 hsp
              go_loopw [6, 38] (fun u i wi => ∃ j : Nat, j ≤ nn ∧ i = .int .i64 j ∧ (∃ s, u = .string s ∧ Hid (lstN needs j = s)) ∧ Below w1.heap.size w1 wi ∧ Hid (e5 = goE (nnE needs) (nn - j) j)) (fun _ i _ => nn - (intOf i).toNat)
              case atStart => exact ⟨0, Nat.zero_le _, rfl, ⟨_, rfl, Lib.hid rfl⟩, Below.refl _ _, HE6⟩
              case round =>
                obtain ⟨j, hj, rfl, ⟨lst, rfl, HLJ⟩, hBi, HEj⟩ := hrel
                by_cases hltj : j < nn
                · have hjl : j < needs.length := by have := HNN.out; omega
                  obtain ⟨pj, offj, rfl, hpj, d0, d1, d2⟩ := (HN1.out.below hBi).at3n hjl
                  obtain ⟨oj1, oj2⟩ := HOK.out needs[j] (List.getElem_mem hjl)
                  have HSJ := Lib.hid (HEj.out.trans (goE_step (nnE needs) nn j hltj))
                  have HTJ := Lib.hid (nnE_key hjl)
                  rw [HLJ.out] at HTJ
                  have HLSJ := Lib.hid (lstN_succ needs j hjl)
                  generalize needs[j] = y at *
                  obtain ⟨yname, ykind, ymust⟩ := y
                  simp only at d0 d1 d2 oj1 HTJ HLSJ
                  have CKJ := Lib.hid (fun w => pKey_any yname w (by unfold maxLen; omega))
                  have CIJ := Lib.hid (fun w => in_any ykind 1 4 w)
                  obtain ⟨g1, hg1⟩ : ∃ b, keyB yname = b := ⟨_, rfl⟩
                  obtain ⟨g2, hg2⟩ : ∃ b, decide (1 ≤ ykind ∧ ykind ≤ 4) = b := ⟨_, rfl⟩
                  obtain ⟨g3, hg3⟩ : ∃ b, leN yname lst = b := ⟨_, rfl⟩
                  have hspj : (Op.bytesLess yname.toList lst.toList || yname.toList == lst.toList) = g3 := hg3
                  rw [hg1, hg2, hg3] at HTJ
                  rw [hg1] at CKJ
                  rw [hg2] at CIJ
                  have HBi := Lib.hid (hBi.alloc hBi.size (.cells #[.string yname, .int .i64 ykind, .bool ymust] 61))
                  have HXi := Lib.hid (XB.new wr [.string yname, .int .i64 ykind, .bool ymust] 61)
                  clear hg1 hg2 hg3 HEj hBi HLJ
                  go_wp2_with fail
                  ((with_reducible refine (CKJ.out _).mono ?_); rintro e w4 ⟨rfl, hb⟩)
                  have HB4 := Lib.hid (HBi.out.trans (hb.mono HBi.out.size))
                  have HX4 := Lib.hid (HXi.out.below hb)
                  have HR4 := Lib.hid (HB1.out.trans (HB4.out.mono HB1.out.size))
                  clear hb HBi HXi CKJ d0 d1 d2
                  have x0 := HX4.out.2 0 _ rfl
                  have x1 := HX4.out.2 1 _ rfl
                  cases g1 with
                  | false =>
                    have HR := Lib.hid (show V = 5 by
                      have e : e5 = 5 := by rw [HSJ.out, HTJ.out]; simp
                      rw [HST.out, HT.out, e]; simp)
                    go_wp2_with fail
                    go_ret
                    exact ⟨ret_int HR.out.symm, HR4.out⟩
                  | true =>
                    rw [if_neg (show ¬ true = false by decide)] at HTJ
                    go_wp2_with fail
                    ((with_reducible refine (CIJ.out _).mono ?_); rintro e w5 ⟨rfl, rfl⟩)
                    cases g2 with
                    | false =>
                      have HR := Lib.hid (show V = 4 by
                        have e : e5 = 4 := by rw [HSJ.out, HTJ.out]; simp
                        rw [HST.out, HT.out, e]; simp)
                      go_wp2_with fail
                      go_ret
                      exact ⟨ret_int HR.out.symm, HR4.out⟩
                    | true =>
                      rw [if_neg (show ¬ true = false by decide)] at HTJ
                      cases g3 with
                      | true =>
                        have HR := Lib.hid (show V = 7 by
                          have e : e5 = 7 := by rw [HSJ.out, HTJ.out]; simp
                          rw [HST.out, HT.out, e]; simp)
                        go_wp2_with fail
                        go_ret
                        exact ⟨ret_int HR.out.symm, HR4.out⟩
                      | false =>
                        have HR := Lib.hid (HSJ.out.trans (if_pos (HTJ.out.trans (if_neg (by decide)))))
                        go_wp2_with fail
                        go_roundw
                        case rel => exact ⟨j + 1, by omega, by go_num, ⟨_, rfl, HLSJ⟩, HB4.out, HR⟩
                        case measure => simp [intOf]; omega
                · have HZ := Lib.hid (show e5 = 0 by rw [HEj.out, show nn - j = 0 by omega]; rfl)
                  have HRn := Lib.hid (HST.out.trans (if_pos (HT.out.trans HZ.out)))
                  have HBi := Lib.hid (HB1.out.trans (hBi.mono HB1.out.size))
                  clear hBi HEj HLJ
                  go_wp2_with fail
                  go_roundw
                  case rel => exact ⟨k + 1, by omega, by go_num, ⟨_, rfl, HLS⟩, HBi.out, HRn⟩
                  case measure => simp [intOf]; omega
      · have HE := Lib.hid (hH.out.trans (show _ = (0 : Int) by rw [show n - k = 0 by omega]; rfl))
        have HB := Lib.hid hB0
        clear hH hB0
        go_wp2_with fail
        go_ret
        exact ⟨ret_int HE.out.symm, HB.out⟩

set_option maxRecDepth 100000 in
set_option maxHeartbeats 16000000 in
theorem eventFault_any (x : Nd) (na : Nat) (sa : Option Addr) (l : List Sm) (ns sc : Nat) (w : World) (hok : x.ok) (hW : RAt w x.wa 5 Wh.cells x.whs) (hS : SmL w sa l) (hns : l.length = ns) :
    Calls Tryz.prog 89 #[.agg #[.int .i64 x.kind, .string x.name, .string x.field, .string x.sign, .slice x.va x.vals.length x.vc, .slice x.wa x.whs.length x.wc, .int .i64 x.within, .int .i64 x.number, .slice x.aa na x.ac], .slice sa ns sc] w (IntO w (evE l x)) := by
  obtain ⟨o1, o2, o3, o4, ⟨o5, o6, o7⟩, ⟨o8, o9, o10⟩, o11, o12, o13, o14⟩ := hok
  obtain ⟨R, hR⟩ : ∃ z, evE l x = z := ⟨_, rfl⟩
  rw [hR]
  have HR := Lib.hid hR.symm
  unfold evE at HR
  have CSS := Lib.hid (fun k w h => schemaOf_any sa l ns sc k w hns (by have := hS.len; omega) h)
  have HS := Lib.hid hS
  have HW := Lib.hid hW
  clear hR hW hS o1 o2 o3 o4 o11 o12 o13 o14 hns
  obtain ⟨kind, name, field, sign, va, vc, vals, wa, wc, whs, within, number, aa, ac⟩ := x
  simp only at *
  obtain ⟨nv, hnv⟩ : ∃ z, vals.length = z := ⟨_, rfl⟩
  obtain ⟨nw, hnw⟩ : ∃ z, whs.length = z := ⟨_, rfl⟩
  rw [hnv] at o5 o7
  rw [hnw] at o8 o10
  rw [hnv, hnw]
  have HNW := Lib.hid hnw
  clear hnv hnw
  have HX0 := Lib.hid (XB.new w [.int .i64 kind, .string name, .string field, .string sign, .slice va nv vc, .slice wa nw wc, .int .i64 within, .int .i64 number, .slice aa na ac] 30)
  have HB0 := Lib.hid ((Below.refl w.heap.size w).alloc (Nat.le_refl _) (.cells #[.int .i64 kind, .string name, .string field, .string sign, .slice va nv vc, .slice wa nw wc, .int .i64 within, .int .i64 number, .slice aa na ac] 30))
  have HS0 := Lib.hid (HS.out.row.alloc (.cells #[.int .i64 kind, .string name, .string field, .string sign, .slice va nv vc, .slice wa nw wc, .int .i64 within, .int .i64 number, .slice aa na ac] 30))
  go_enter Tryz.func89, Tryz.ntmps89
  go_wp2_with fail
  ((with_reducible refine (CSS.out _ _ HS0.out).mono ?_); rintro e w1 ⟨⟨snm, sna, snc, snn, sneeds, b, hsnn, rfl, h⟩, hb⟩)
  have HX := Lib.hid (HX0.out.below hb)
  have HB := Lib.hid (HB0.out.trans (hb.mono HB0.out.size))
  clear hb HX0 HB0 HS0
  generalize w.heap.size = q0 at HX ⊢
  rcases h with ⟨rfl, hf⟩ | ⟨rfl, hf⟩
  · rw [hf] at HR
    simp only at HR
    have hmem := (fndG_mem hf).1
    have HSN0 := Lib.hid (HS.out.ok _ hmem)
    have HSR : Hid (RAt w sna 3 Nn.cells sneeds) := Lib.hid HSN0.out.2.1.row
    have CNW := Lib.hid (fun k w h => kindOf_any sna sneeds snn snc k w hsnn (by have := HSN0.out.2.1.len; simp only at this; omega) h)
    clear hf hmem HSN0 hsnn
    have x0 := HX.out.2 0 _ rfl
    have x2 := HX.out.2 2 _ rfl
    by_cases h14 : kind = 14
    · subst h14
      rw [if_neg (show ¬ ((14 : Int) = 12 ∧ kdE sneeds field = 0) by omega), if_neg (show ¬ ((14 : Int) = 12 ∧ kdE sneeds field = 1) by omega)] at HR
      have HS4 := Lib.hid (HS.out.row.below HB.out)
      go_wp2_with fail
      clear x0 x2
      ((with_reducible refine (CSS.out _ _ HS4.out).mono ?_); rintro e w5 ⟨⟨tnm, tna, tnc, tnn, tneeds, b, htnn, rfl, h⟩, hb⟩)
      have HX5 := Lib.hid (HX.out.below hb)
      have HB5 := Lib.hid (HB.out.trans (hb.mono HB.out.size))
      clear hb HX HB HS4 htnn CSS
      rcases h with ⟨rfl, hf⟩ | ⟨rfl, hf⟩
      · have HR0 : Hid (R = fstE (wtE sneeds) (whs.drop 0)) := Lib.hid (HR.out.trans (if_neg (by rw [hf]; simp)))
        have HB := HB5
        have x0 := HX5.out.2 0 _ rfl
        have x5 := HX5.out.2 5 _ rfl
        clear hf HR HB5
        go_wp2_with fail
        clear x0 x5 HX5
        go_loopw [46] (fun i wr => ∃ j : Nat, j ≤ nw ∧ i = .int .i64 j ∧ Below w.heap.size w wr ∧ Hid (R = fstE (wtE sneeds) (whs.drop j))) (fun i _ => nw - (intOf i).toNat)
        case atStart => exact ⟨0, Nat.zero_le _, rfl, HB.out, HR0⟩
        case round =>
          obtain ⟨j, hj, rfl, hBr, HRr⟩ := hrel
          have HBr := Lib.hid hBr
          clear hBr HB
          by_cases hlt : j < nw
          · have hjl : j < whs.length := by have := HNW.out; omega
            obtain ⟨pw, offw, rfl, hpw, d0, d1, d2, d3, d4⟩ := (HW.out.below HBr.out).at5w hjl
            have HD := Lib.hid (HRr.out.trans (fstE_drop (wtE sneeds) whs j hjl))
            generalize whs[j] = y at *
            obtain ⟨yf, ys, yv⟩ := y
            obtain ⟨yk, yt, yn⟩ := yv
            simp only at d0 d1 d2 d3 d4 HD
            have HW1 := Lib.hid (show wtE sneeds ⟨yf, ys, ⟨yk, yt, yn⟩⟩ = if kdE sneeds yf = 0 then 8 else if kdE sneeds yf ≠ yk then 10 else 0 from rfl)
            have CN := Lib.hid (fun w h => CNW.out yf w h)
            generalize wtE sneeds ⟨yf, ys, ⟨yk, yt, yn⟩⟩ = z at *
            generalize kdE sneeds yf = kd at *
            have HBa := Lib.hid (HBr.out.alloc HBr.out.size (.cells #[.string yf, .string ys, .int .i64 yk, .string yt, .int .i64 yn] 98))
            have HXw := Lib.hid (XB.new wr [.string yf, .string ys, .int .i64 yk, .string yt, .int .i64 yn] 98)
            have HSN := Lib.hid (HSR.out.below HBa.out)
            clear HBr
            go_wp2_with fail
            ((with_reducible refine (CN.out _ HSN.out).mono ?_); rintro e w7 ⟨rfl, hb⟩)
            have HB7 := Lib.hid (HBa.out.trans (hb.mono HBa.out.size))
            have HXw7 := Lib.hid (HXw.out.below hb)
            clear d0 d1 d2 d3 d4 hb HBa HXw HSN hpw
            have xw2 := HXw7.out.2 2 _ rfl
            by_cases h0 : kd = 0
            · subst h0
              have HRn := Lib.hid (show R = 8 by
                have e : z = 8 := HW1.out.trans (if_pos rfl)
                have h := HD.out
                rw [e] at h
                exact h.trans (if_neg (by decide)))
              clear HD HW1
              go_wp2_with fail
              go_ret
              exact ⟨ret_int HRn.out.symm, HB7.out⟩
            · have hA0 : (kd == 0) = false := by simpa using h0
              by_cases hk : kd = yk
              · have hA : (kd == yk) = true := by simpa using hk
                have HRn := Lib.hid (HD.out.trans (if_pos (show z = 0 by rw [HW1.out, if_neg h0, if_neg (by simpa using hk)])))
                clear HD HW1 hk h0
                go_wp2_with fail
                go_roundw
                case rel => exact ⟨j + 1, by omega, by go_num, HB7.out, HRn⟩
                case measure => simp [intOf]; omega
              · have hA : (kd == yk) = false := by simpa using hk
                have HRn := Lib.hid (show R = 10 by
                  have e : z = 10 := by rw [HW1.out, if_neg h0, if_pos hk]
                  have h := HD.out
                  rw [e] at h
                  exact h.trans (if_neg (by decide)))
                clear HD HW1 hk h0
                go_wp2_with fail
                go_ret
                exact ⟨ret_int HRn.out.symm, HB7.out⟩
          · have HZ := Lib.hid (show R = 0 by rw [HRr.out, List.drop_eq_nil_of_le (by have := HNW.out; omega)]; rfl)
            go_wp2_with fail
            go_ret
            exact ⟨ret_int HZ.out.symm, HBr.out⟩
      · have HR0 : Hid (R = 8) := Lib.hid (HR.out.trans (if_pos ⟨by trivial, hf⟩))
        clear hf HR
        go_wp2_with fail
        go_ret
        exact ⟨ret_int HR0.out.symm, HB5.out⟩
    · rw [if_neg (show ¬ (kind = 14 ∧ fndG Sm.name l field = none) from fun h => h14 h.1)] at HR
      have hA14 : (kind == 14) = false := by simpa using h14
      by_cases h12 : kind = 12
      · subst h12
        have HSN := Lib.hid (HSR.out.below HB.out)
        have CK := Lib.hid (fun w h => CNW.out field w h)
        obtain ⟨kf, hkf⟩ : ∃ z, kdE sneeds field = z := ⟨_, rfl⟩
        rw [hkf] at HR CK
        clear hA14 h14 hkf
        go_wp2_with fail
        clear x0 x2
        ((with_reducible refine (CK.out _ HSN.out).mono ?_); rintro e w5 ⟨rfl, hb⟩)
        have HX5 := Lib.hid (HX.out.below hb)
        have HB5 := Lib.hid (HB.out.trans (hb.mono HB.out.size))
        clear hb HX HB HSN CSS CK
        by_cases h0 : kf = 0
        · subst h0
          have HR0 : Hid (R = 8) := Lib.hid (HR.out.trans (if_pos ⟨by trivial, by trivial⟩))
          go_wp2_with fail
          go_ret
          exact ⟨ret_int HR0.out.symm, HB5.out⟩
        · have hA0 : (kf == 0) = false := by simpa using h0
          rw [if_neg (fun h => h0 h.2)] at HR
          by_cases h1 : kf = 1
          · subst h1
            have HR0 : Hid (R = 10) := Lib.hid (HR.out.trans (if_pos ⟨by trivial, by trivial⟩))
            go_wp2_with fail
            go_ret
            exact ⟨ret_int HR0.out.symm, HB5.out⟩
          · have HR0 : Hid (R = fstE (wtE sneeds) (whs.drop 0)) := Lib.hid (HR.out.trans (if_neg fun h => h1 h.2))
            have hA1 : (kf == 1) = false := by simpa using h1
            have HB := HB5
            have x5 := HX5.out.2 5 _ rfl
            clear HR HB5 h1 h0
            go_wp2_with fail
            clear x5 HX5 hA0 hA1
            go_loopw [46] (fun i wr => ∃ j : Nat, j ≤ nw ∧ i = .int .i64 j ∧ Below w.heap.size w wr ∧ Hid (R = fstE (wtE sneeds) (whs.drop j))) (fun i _ => nw - (intOf i).toNat)
            case atStart => exact ⟨0, Nat.zero_le _, rfl, HB.out, HR0⟩
            case round =>
              obtain ⟨j, hj, rfl, hBr, HRr⟩ := hrel
              have HBr := Lib.hid hBr
              clear hBr HB
              by_cases hlt : j < nw
              · have hjl : j < whs.length := by have := HNW.out; omega
                obtain ⟨pw, offw, rfl, hpw, d0, d1, d2, d3, d4⟩ := (HW.out.below HBr.out).at5w hjl
                have HD := Lib.hid (HRr.out.trans (fstE_drop (wtE sneeds) whs j hjl))
                generalize whs[j] = y at *
                obtain ⟨yf, ys, yv⟩ := y
                obtain ⟨yk, yt, yn⟩ := yv
                simp only at d0 d1 d2 d3 d4 HD
                have HW1 := Lib.hid (show wtE sneeds ⟨yf, ys, ⟨yk, yt, yn⟩⟩ = if kdE sneeds yf = 0 then 8 else if kdE sneeds yf ≠ yk then 10 else 0 from rfl)
                have CN := Lib.hid (fun w h => CNW.out yf w h)
                generalize wtE sneeds ⟨yf, ys, ⟨yk, yt, yn⟩⟩ = z at *
                generalize kdE sneeds yf = kd at *
                have HBa := Lib.hid (HBr.out.alloc HBr.out.size (.cells #[.string yf, .string ys, .int .i64 yk, .string yt, .int .i64 yn] 98))
                have HXw := Lib.hid (XB.new wr [.string yf, .string ys, .int .i64 yk, .string yt, .int .i64 yn] 98)
                have HSN := Lib.hid (HSR.out.below HBa.out)
                clear HBr
                go_wp2_with fail
                ((with_reducible refine (CN.out _ HSN.out).mono ?_); rintro e w7 ⟨rfl, hb⟩)
                have HB7 := Lib.hid (HBa.out.trans (hb.mono HBa.out.size))
                have HXw7 := Lib.hid (HXw.out.below hb)
                clear d0 d1 d2 d3 d4 hb HBa HXw HSN hpw
                have xw2 := HXw7.out.2 2 _ rfl
                by_cases h0 : kd = 0
                · subst h0
                  have HRn := Lib.hid (show R = 8 by
                    have e : z = 8 := HW1.out.trans (if_pos rfl)
                    have h := HD.out
                    rw [e] at h
                    exact h.trans (if_neg (by decide)))
                  clear HD HW1
                  go_wp2_with fail
                  go_ret
                  exact ⟨ret_int HRn.out.symm, HB7.out⟩
                · have hA0 : (kd == 0) = false := by simpa using h0
                  by_cases hk : kd = yk
                  · have hA : (kd == yk) = true := by simpa using hk
                    have HRn := Lib.hid (HD.out.trans (if_pos (show z = 0 by rw [HW1.out, if_neg h0, if_neg (by simpa using hk)])))
                    clear HD HW1 hk h0
                    go_wp2_with fail
                    go_roundw
                    case rel => exact ⟨j + 1, by omega, by go_num, HB7.out, HRn⟩
                    case measure => simp [intOf]; omega
                  · have hA : (kd == yk) = false := by simpa using hk
                    have HRn := Lib.hid (show R = 10 by
                      have e : z = 10 := by rw [HW1.out, if_neg h0, if_pos hk]
                      have h := HD.out
                      rw [e] at h
                      exact h.trans (if_neg (by decide)))
                    clear HD HW1 hk h0
                    go_wp2_with fail
                    go_ret
                    exact ⟨ret_int HRn.out.symm, HB7.out⟩
              · have HZ := Lib.hid (show R = 0 by rw [HRr.out, List.drop_eq_nil_of_le (by have := HNW.out; omega)]; rfl)
                go_wp2_with fail
                go_ret
                exact ⟨ret_int HZ.out.symm, HBr.out⟩
      · have hA12 : (kind == 12) = false := by simpa using h12
        have HR0 : Hid (R = fstE (wtE sneeds) (whs.drop 0)) := Lib.hid (by
          have h := HR.out
          rw [if_neg (fun h => h12 h.1), if_neg (fun h => h12 h.1)] at h
          exact h)
        have x5 := HX.out.2 5 _ rfl
        clear HR CSS h12 h14
        go_wp2_with fail
        clear x0 x2 x5 hA14 hA12 HX
        go_loopw [46] (fun i wr => ∃ j : Nat, j ≤ nw ∧ i = .int .i64 j ∧ Below w.heap.size w wr ∧ Hid (R = fstE (wtE sneeds) (whs.drop j))) (fun i _ => nw - (intOf i).toNat)
        case atStart => exact ⟨0, Nat.zero_le _, rfl, HB.out, HR0⟩
        case round =>
          obtain ⟨j, hj, rfl, hBr, HRr⟩ := hrel
          have HBr := Lib.hid hBr
          clear hBr HB
          by_cases hlt : j < nw
          · have hjl : j < whs.length := by have := HNW.out; omega
            obtain ⟨pw, offw, rfl, hpw, d0, d1, d2, d3, d4⟩ := (HW.out.below HBr.out).at5w hjl
            have HD := Lib.hid (HRr.out.trans (fstE_drop (wtE sneeds) whs j hjl))
            generalize whs[j] = y at *
            obtain ⟨yf, ys, yv⟩ := y
            obtain ⟨yk, yt, yn⟩ := yv
            simp only at d0 d1 d2 d3 d4 HD
            have HW1 := Lib.hid (show wtE sneeds ⟨yf, ys, ⟨yk, yt, yn⟩⟩ = if kdE sneeds yf = 0 then 8 else if kdE sneeds yf ≠ yk then 10 else 0 from rfl)
            have CN := Lib.hid (fun w h => CNW.out yf w h)
            generalize wtE sneeds ⟨yf, ys, ⟨yk, yt, yn⟩⟩ = z at *
            generalize kdE sneeds yf = kd at *
            have HBa := Lib.hid (HBr.out.alloc HBr.out.size (.cells #[.string yf, .string ys, .int .i64 yk, .string yt, .int .i64 yn] 98))
            have HXw := Lib.hid (XB.new wr [.string yf, .string ys, .int .i64 yk, .string yt, .int .i64 yn] 98)
            have HSN := Lib.hid (HSR.out.below HBa.out)
            clear HBr
            go_wp2_with fail
            ((with_reducible refine (CN.out _ HSN.out).mono ?_); rintro e w7 ⟨rfl, hb⟩)
            have HB7 := Lib.hid (HBa.out.trans (hb.mono HBa.out.size))
            have HXw7 := Lib.hid (HXw.out.below hb)
            clear d0 d1 d2 d3 d4 hb HBa HXw HSN hpw
            have xw2 := HXw7.out.2 2 _ rfl
            by_cases h0 : kd = 0
            · subst h0
              have HRn := Lib.hid (show R = 8 by
                have e : z = 8 := HW1.out.trans (if_pos rfl)
                have h := HD.out
                rw [e] at h
                exact h.trans (if_neg (by decide)))
              clear HD HW1
              go_wp2_with fail
              go_ret
              exact ⟨ret_int HRn.out.symm, HB7.out⟩
            · have hA0 : (kd == 0) = false := by simpa using h0
              by_cases hk : kd = yk
              · have hA : (kd == yk) = true := by simpa using hk
                have HRn := Lib.hid (HD.out.trans (if_pos (show z = 0 by rw [HW1.out, if_neg h0, if_neg (by simpa using hk)])))
                clear HD HW1 hk h0
                go_wp2_with fail
                go_roundw
                case rel => exact ⟨j + 1, by omega, by go_num, HB7.out, HRn⟩
                case measure => simp [intOf]; omega
              · have hA : (kd == yk) = false := by simpa using hk
                have HRn := Lib.hid (show R = 10 by
                  have e : z = 10 := by rw [HW1.out, if_neg h0, if_pos hk]
                  have h := HD.out
                  rw [e] at h
                  exact h.trans (if_neg (by decide)))
                clear HD HW1 hk h0
                go_wp2_with fail
                go_ret
                exact ⟨ret_int HRn.out.symm, HB7.out⟩
          · have HZ := Lib.hid (show R = 0 by rw [HRr.out, List.drop_eq_nil_of_le (by have := HNW.out; omega)]; rfl)
            go_wp2_with fail
            go_ret
            exact ⟨ret_int HZ.out.symm, HBr.out⟩
  · rw [hf] at HR
    simp only at HR
    clear hf hsnn CSS
    go_wp2_with fail
    go_ret
    exact ⟨ret_int HR.out.symm, HB.out⟩

set_option maxRecDepth 100000 in
set_option maxHeartbeats 16000000 in
theorem typeFault_any (fa : Option Addr) (f : List Nn) (nf fc : Nat) (sa : Option Addr) (l : List Sm) (ns sc : Nat) (hnf : f.length = nf) (hns : l.length = ns) :
    ∀ (d : Nat) (c : Cn) (w : World), TAt d w c → NnL w fa f → SmL w sa l →
      Calls Tryz.prog 43 #[c.agg, .slice fa nf fc, .slice sa ns sc] w (IntO w (wkT (suE f l) d c))
  | 0, _, _, h, _, _ => h.elim
  | d + 1, c, w, ⟨hok, ⟨ha1, ha2, ha3'⟩, hV, hW, hA, hCC⟩, hF, hS => by
    have ha3 := wdM_le ha3'
    clear ha3'
    have HI := Lib.hid (fun c w => typeFault_any fa f nf fc sa l ns sc hnf hns d c w)
    have HE := Lib.hid (show wkT (suE f l) (d + 1) c = if suE f l c.nd ≠ 0 then suE f l c.nd else fstE (wkT (suE f l) d) c.args from rfl)
    have CE := Lib.hid (fun w h1 h2 => eventFault_any c.nd c.args.length sa l ns sc w hok h1 h2 hns)
    have CK := Lib.hid (fun w h => kindOf_any fa f nf fc c.nd.name w hnf (by have := hF.len; omega) h)
    have CH := Lib.hid (fun q w kd h1 h2 => tyFHas_any c.nd.va c.nd.vals c.nd.vals.length c.nd.vc q kd w rfl hok.2.2.2.2.1.2.2 h1 h2)
    have HSU := Lib.hid (show suE f l c.nd = if 6 ≤ c.nd.kind ∧ c.nd.kind ≤ 10 then (if kdE f c.nd.name = 0 then 8 else if c.nd.vals.any (othB (kdE f c.nd.name)) = true then 10 else 0) else if 11 ≤ c.nd.kind ∧ c.nd.kind ≤ 14 then evE l c.nd else 0 from rfl)
    have HF := Lib.hid hF
    have HS := Lib.hid hS
    have HV := Lib.hid hV
    have HW := Lib.hid hW
    have HA := Lib.hid hA
    have HC := Lib.hid hCC
    unfold Cn.agg
    clear hok hV hW hA hCC hF hS ha1 ha2
    obtain ⟨OT, hOT⟩ : ∃ z, c.nd.vals.any (othB (kdE f c.nd.name)) = z := ⟨_, rfl⟩
    have CH1 := Lib.hid (fun q w h1 h2 => CH.out q w (kdE f c.nd.name) h1 h2)
    rw [hOT] at HSU CH1
    clear hOT CH
    obtain ⟨R, hR⟩ : ∃ z, wkT (suE f l) (d + 1) c = z := ⟨_, rfl⟩
    obtain ⟨SU, hSU⟩ : ∃ z, suE f l c.nd = z := ⟨_, rfl⟩
    obtain ⟨EV, hEV⟩ : ∃ z, evE l c.nd = z := ⟨_, rfl⟩
    obtain ⟨KD, hKD⟩ : ∃ z, kdE f c.nd.name = z := ⟨_, rfl⟩
    rw [hR, hSU] at HE
    rw [hSU, hEV, hKD] at HSU
    rw [hEV] at CE
    rw [hKD] at CK CH1
    rw [hR]
    clear hR hSU hEV hKD
    obtain ⟨n, args⟩ := c
    obtain ⟨kind, name, field, sign, va, vc, vals, wa, wc, whs, within, number, aa, ac⟩ := n
    simp only [Cn.nd, Cn.args] at *
    obtain ⟨nv, hnv⟩ : ∃ z, vals.length = z := ⟨_, rfl⟩
    obtain ⟨nw, hnw⟩ : ∃ z, whs.length = z := ⟨_, rfl⟩
    obtain ⟨na, hna⟩ : ∃ z, args.length = z := ⟨_, rfl⟩
    rw [hnv, hnw, hna] at CE ⊢
    rw [hnv] at CH1
    rw [hna] at ha3
    have HNA := Lib.hid hna
    clear hnv hnw hna
    have HX0 := Lib.hid (XB.new w [.int .i64 kind, .string name, .string field, .string sign, .slice va nv vc, .slice wa nw wc, .int .i64 within, .int .i64 number, .slice aa na ac] 30)
    have HB0 := Lib.hid ((Below.refl w.heap.size w).alloc (Nat.le_refl _) (.cells #[.int .i64 kind, .string name, .string field, .string sign, .slice va nv vc, .slice wa nw wc, .int .i64 within, .int .i64 number, .slice aa na ac] 30))
    simp only [List.toArray] at HX0
    go_enter Tryz.func43, Tryz.ntmps43
    go_upto_block 0 with (fail)
    generalize w.alloc (.cells #[.int .i64 kind, .string name, .string field, .string sign, .slice va nv vc, .slice wa nw wc, .int .i64 within, .int .i64 number, .slice aa na ac] 30) = w1 at *
    obtain ⟨q0, hq0⟩ : ∃ z, w.heap.size = z := ⟨_, rfl⟩
    rw [hq0] at HX0 ⊢
    clear hq0
    go_cut [] (fun wx => Below w1.heap.size w1 wx ∧ Hid (SU = 0))
    case first =>
      --@r1
      obtain ⟨b1, hb1⟩ : ∃ b, decide (6 ≤ kind ∧ kind ≤ 10) = b := ⟨_, rfl⟩
      obtain ⟨b2, hb2⟩ : ∃ b, decide (11 ≤ kind ∧ kind ≤ 14) = b := ⟨_, rfl⟩
      go_upto_if 14 with (fail)
      go_cut [14] (fun u wx => u = .bool b1 ∧ w1 = wx)
      case first =>
        have HBK := Lib.hid hb1
        clear hb1 hb2 HE CE CK CH1 HSU HX0
        by_cases h6 : kind = 6
        · subst h6
          obtain rfl : b1 = true := HBK.out.symm.trans (decide_eq_true (by omega))
          go_wp2_with fail
          go_meet
          exact ⟨rfl, rfl⟩
        · have hA6 : (kind == 6) = false := by simpa using h6
          by_cases h7 : kind = 7
          · subst h7
            obtain rfl : b1 = true := HBK.out.symm.trans (decide_eq_true (by omega))
            go_wp2_with fail
            go_meet
            exact ⟨rfl, rfl⟩
          · have hA7 : (kind == 7) = false := by simpa using h7
            by_cases h8 : kind = 8
            · subst h8
              obtain rfl : b1 = true := HBK.out.symm.trans (decide_eq_true (by omega))
              go_wp2_with fail
              go_meet
              exact ⟨rfl, rfl⟩
            · have hA8 : (kind == 8) = false := by simpa using h8
              by_cases h9 : kind = 9
              · subst h9
                obtain rfl : b1 = true := HBK.out.symm.trans (decide_eq_true (by omega))
                go_wp2_with fail
                go_meet
                exact ⟨rfl, rfl⟩
              · have hA9 : (kind == 9) = false := by simpa using h9
                by_cases h10 : kind = 10
                · subst h10
                  obtain rfl : b1 = true := HBK.out.symm.trans (decide_eq_true (by omega))
                  go_wp2_with fail
                  go_meet
                  exact ⟨rfl, rfl⟩
                · have hA10 : (kind == 10) = false := by simpa using h10
                  obtain rfl : b1 = false := HBK.out.symm.trans (decide_eq_false (by omega))
                  go_wp2_with fail
                  go_meet
                  exact ⟨rfl, rfl⟩
      case rest =>
      obtain ⟨rfl, rfl⟩ := hcut
      cases b1 with
      | true =>
        have hk := of_decide_eq_true hb1
        have HS1 := Lib.hid (HSU.out.trans (if_pos hk))
        have x1 := HX0.out.2 1 _ rfl
        have HF1 := Lib.hid (HF.out.row.below HB0.out)
        clear hb1 hb2 hk HSU
        go_wp2_with fail
        clear x1
        ((with_reducible refine (CK.out _ HF1.out).mono ?_); rintro e w2 ⟨rfl, hb⟩)
        have HX2 := Lib.hid ((HX0.out.below hb).alloc (.cells #[.int .i64 KD] 3))
        have HXk := Lib.hid (XB.new w2 [.int .i64 KD] 3)
        have HB2 := Lib.hid (hb.alloc hb.size (.cells #[.int .i64 KD] 3))
        have HB2w := Lib.hid (HB0.out.trans (HB2.out.mono HB0.out.size))
        clear hb CK HF1 HX0
        by_cases h0 : KD = 0
        · subst h0
          have HS2 : Hid (SU = 8) := Lib.hid (HS1.out.trans (if_pos rfl))
          go_wp2_with fail
          go_ret
          exact ⟨ret_int (by rw [HE.out, HS2.out]; simp), HB2w.out⟩
        · have hA0 : (KD == 0) = false := by simpa using h0
          have HS2 := Lib.hid (HS1.out.trans (if_neg h0))
          have x4 := HX2.out.2 4 _ rfl
          have xk := HXk.out.2 0 _ rfl
          have HV2 := Lib.hid (HV.out.below HB2w.out)
          clear HS1 h0
          go_wp2_with fail
          clear x4
          ((with_reducible refine (CH1.out _ _ HV2.out xk).mono ?_); rintro e w3 ⟨rfl, hb⟩)
          have HB3 := Lib.hid (HB2.out.trans (hb.mono HB2.out.size))
          have HB3w := Lib.hid (HB2w.out.trans (hb.mono HB2w.out.size))
          clear hb CH1 HV2 xk HXk HX2
          cases OT with
          | true =>
            have HS3 : Hid (SU = 10) := Lib.hid (HS2.out.trans (if_pos rfl))
            go_wp2_with fail
            go_ret
            exact ⟨ret_int (by rw [HE.out, HS3.out]; simp), HB3w.out⟩
          | false =>
            have HS3 := Lib.hid (HS2.out.trans (if_neg (by decide)))
            go_wp2_with fail
            go_meet
            exact ⟨HB3.out, HS3⟩
      | false =>
        have hk := of_decide_eq_false hb1
        have HS1 := Lib.hid (HSU.out.trans (if_neg hk))
        clear hb1 hk HSU CK CH1
        go_upto_if 30 with (fail)
        go_cut [30] (fun u wx => u = .bool b2 ∧ w1 = wx)
        case first =>
          have HBK := Lib.hid hb2
          clear hb2 HE CE HS1 HX0
          by_cases h11 : kind = 11
          · subst h11
            obtain rfl : b2 = true := HBK.out.symm.trans (decide_eq_true (by omega))
            go_wp2_with fail
            go_meet
            exact ⟨rfl, rfl⟩
          · have hA11 : (kind == 11) = false := by simpa using h11
            by_cases h12 : kind = 12
            · subst h12
              obtain rfl : b2 = true := HBK.out.symm.trans (decide_eq_true (by omega))
              go_wp2_with fail
              go_meet
              exact ⟨rfl, rfl⟩
            · have hA12 : (kind == 12) = false := by simpa using h12
              by_cases h13 : kind = 13
              · subst h13
                obtain rfl : b2 = true := HBK.out.symm.trans (decide_eq_true (by omega))
                go_wp2_with fail
                go_meet
                exact ⟨rfl, rfl⟩
              · have hA13 : (kind == 13) = false := by simpa using h13
                by_cases h14 : kind = 14
                · subst h14
                  obtain rfl : b2 = true := HBK.out.symm.trans (decide_eq_true (by omega))
                  go_wp2_with fail
                  go_meet
                  exact ⟨rfl, rfl⟩
                · have hA14 : (kind == 14) = false := by simpa using h14
                  obtain rfl : b2 = false := HBK.out.symm.trans (decide_eq_false (by omega))
                  go_wp2_with fail
                  go_meet
                  exact ⟨rfl, rfl⟩
        case rest =>
        obtain ⟨rfl, rfl⟩ := hcut
        cases b2 with
        | true =>
          have hk := of_decide_eq_true hb2
          have HS2 := Lib.hid (HS1.out.trans (if_pos hk))
          have HW1 := Lib.hid (HW.out.below HB0.out)
          have HSS1 := Lib.hid (HS.out.below HB0.out)
          clear hb2 hk HS1
          have x0 := HX0.out.2 0 _ rfl
          have x1 := HX0.out.2 1 _ rfl
          have x2 := HX0.out.2 2 _ rfl
          have x3 := HX0.out.2 3 _ rfl
          have x4 := HX0.out.2 4 _ rfl
          have x5 := HX0.out.2 5 _ rfl
          have x6 := HX0.out.2 6 _ rfl
          have x7 := HX0.out.2 7 _ rfl
          have x8 := HX0.out.2 8 _ rfl
          have xl := HX0.out.1
          go_wp2_with fail
          clear x0 x1 x2 x3 x4 x5 x6 x7 x8 xl
          ((with_reducible refine (CE.out _ HW1.out HSS1.out).mono ?_); rintro e w2 ⟨rfl, hb⟩)
          have HB2 := Lib.hid hb
          have HB2w := Lib.hid (HB0.out.trans (hb.mono HB0.out.size))
          clear hb
          by_cases h0 : EV = 0
          · subst h0
            go_wp2_with fail
            go_meet
            exact ⟨HB2.out, HS2⟩
          · have hA0 : (EV != 0) = true := by simpa using h0
            have H0 := Lib.hid h0
            clear h0
            go_wp2_with fail
            go_ret
            exact ⟨ret_int (by rw [HE.out, HS2.out, if_pos H0.out]), HB2w.out⟩
        | false =>
          have HS2 := Lib.hid (HS1.out.trans (if_neg (of_decide_eq_false hb2)))
          clear hb2 HS1
          go_wp2_with fail
          go_meet
          exact ⟨Below.refl _ _, HS2⟩
      --@end
    case rest =>
    obtain ⟨hBc, HS0⟩ := hcut
    have HE1 : Hid (R = fstE (wkT (suE f l) d) args) := Lib.hid (HE.out.trans (if_neg fun h => h HS0.out))
    have HX1 := Lib.hid (HX0.out.below hBc)
    have HB1 := Lib.hid (HB0.out.trans (hBc.mono HB0.out.size))
    clear hBc HS0 HE HSU CE CK CH1 HX0 HB0
    have x8 := HX1.out.2 8 _ rfl
    go_wp2_with fail
    clear x8
    go_loopw [44] (fun i wr => ∃ k : Nat, k ≤ na ∧ i = .int .i64 k ∧ Below w.heap.size w wr ∧ Hid (R = fstE (wkT (suE f l) d) (args.drop k))) (fun i _ => na - (intOf i).toNat)
    case atStart => exact ⟨0, Nat.zero_le _, rfl, HB1.out, HE1⟩
    case round =>
      --@r2
      obtain ⟨k, hk, rfl, hBr, HFr⟩ := hrel
      have HBr := Lib.hid hBr
      clear hBr
      by_cases hlt : k < na
      · have hkl : k < args.length := by have := HNA.out; omega
        obtain ⟨p, off, rfl, hp, c0, c1, c2, c3, c4, c5, c6, c7, c8⟩ := (HA.out.below HBr.out).at9c hkl
        have HD := Lib.hid (HFr.out.trans (fstE_drop (wkT (suE f l) d) args k hkl))
        have HTx := Lib.hid ((HC.out args[k] (List.getElem_mem hkl)).below HBr.out)
        have C1 := Lib.hid (HI.out args[k])
        obtain ⟨r, hr⟩ : ∃ z, wkT (suE f l) d args[k] = z := ⟨_, rfl⟩
        rw [hr] at HD C1
        clear hr
        generalize args[k] = x at *
        obtain ⟨xn, xargs⟩ := x
        obtain ⟨xkind, xname, xfield, xsign, xva, xvc, xvals, xwa, xwc, xwhs, xwithin, xnumber, xaa, xac⟩ := xn
        unfold Cn.agg at C1
        simp only [Cn.nd, Cn.args] at *
        obtain ⟨xnv, hxnv⟩ : ∃ z, xvals.length = z := ⟨_, rfl⟩
        obtain ⟨xnw, hxnw⟩ : ∃ z, xwhs.length = z := ⟨_, rfl⟩
        obtain ⟨xna, hxna⟩ : ∃ z, xargs.length = z := ⟨_, rfl⟩
        rw [hxnv] at c4 C1
        rw [hxnw] at c5 C1
        rw [hxna] at c8 C1
        clear hxnv hxnw hxna
        have HTxa := Lib.hid (HTx.out.alloc (.cells #[.int .i64 xkind, .string xname, .string xfield, .string xsign, .slice xva xnv xvc, .slice xwa xnw xwc, .int .i64 xwithin, .int .i64 xnumber, .slice xaa xna xac] 30))
        have HBa := Lib.hid (HBr.out.alloc HBr.out.size (.cells #[.int .i64 xkind, .string xname, .string xfield, .string xsign, .slice xva xnv xvc, .slice xwa xnw xwc, .int .i64 xwithin, .int .i64 xnumber, .slice xaa xna xac] 30))
        have HFa := Lib.hid (HF.out.below HBa.out)
        have HSa := Lib.hid (HS.out.below HBa.out)
        clear HTx HBr
        go_wp2_with fail
        ((with_reducible refine (C1.out _ HTxa.out HFa.out HSa.out).mono ?_); rintro e w5 ⟨rfl, hb5⟩)
        have HB5 := Lib.hid (HBa.out.trans (hb5.mono HBa.out.size))
        clear hb5 HTxa HBa HFa HSa c0 c1 c2 c3 c4 c5 c6 c7 c8 hp
        by_cases h3 : r = 0
        · subst h3
          have HRn := Lib.hid (HD.out.trans (if_pos rfl))
          go_wp2_with fail
          go_roundw
          case rel => exact ⟨k + 1, by omega, by go_num, HB5.out, HRn⟩
          case measure => simp [intOf]; omega
        · have h4 : (r != 0) = true := by simpa using h3
          have HRn := Lib.hid (HD.out.trans (if_neg h3))
          clear h3
          go_wp2_with fail
          go_ret
          exact ⟨ret_int HRn.out.symm, HB5.out⟩
      · have HZ : Hid (R = 0) := Lib.hid (by rw [HFr.out, List.drop_eq_nil_of_le (by have := HNA.out; omega)]; rfl)
        go_wp2_with fail
        go_ret
        exact ⟨ret_int HZ.out.symm, HBr.out⟩
      --@end

set_option maxRecDepth 100000 in
set_option maxHeartbeats 16000000 in
theorem TypeFault_any (d : Nat) (c : Cn) (fa : Option Addr) (f : List Nn) (nf fc : Nat) (sa : Option Addr) (l : List Sm) (ns sc : Nat) (w : World) (hT : TAt d w c) (hB : Tbs w) (hsz : szN d c ≤ 1000000000) (hd : d ≤ 100000) (hnf : f.length = nf) (hns : l.length = ns) (hF : NnL w fa f) (hS : SmL w sa l) :
    Calls Tryz.prog 11 #[c.agg, .slice fa nf fc, .slice sa ns sc] w (IntO w (tyE f l d c)) := by
  have hnf1 : nf ≤ 1000 := by have := hF.len; omega
  obtain ⟨R, hR⟩ : ∃ z, tyE f l d c = z := ⟨_, rfl⟩
  rw [hR]
  have HR := Lib.hid (show R = if cnE d c ≠ 0 then cnE d c else if nnsE f ≠ 0 then nnsE f else if smsE l ≠ 0 then smsE l else wkT (suE f l) d c from hR.symm)
  have C0 := Lib.hid (fun w h1 h2 => CondFault_any d c w h1 h2 hsz hd)
  have C1 := Lib.hid (fun w h => SchemasFault_any sa l ns sc w hns h)
  have C2 := Lib.hid (fun w h1 h2 h3 => typeFault_any fa f nf fc sa l ns sc hnf hns d c w h1 h2 h3)
  obtain ⟨E0, hE0⟩ : ∃ z, cnE d c = z := ⟨_, rfl⟩
  obtain ⟨E1, hE1⟩ : ∃ z, nnsE f = z := ⟨_, rfl⟩
  obtain ⟨E2, hE2⟩ : ∃ z, smsE l = z := ⟨_, rfl⟩
  obtain ⟨E3, hE3⟩ : ∃ z, wkT (suE f l) d c = z := ⟨_, rfl⟩
  rw [hE0, hE1, hE2, hE3] at HR
  rw [hE0] at C0
  rw [hE2] at C1
  rw [hE3] at C2
  have HE1 := Lib.hid hE1.symm
  unfold nnsE at HE1
  rw [hnf] at HE1
  have HN := Lib.hid hnf
  have HT := Lib.hid hT
  have HTB := Lib.hid hB
  have HF := Lib.hid hF
  have HS := Lib.hid hS
  unfold Cn.agg at *
  clear hR hE0 hE1 hE2 hE3 hT hB hF hS hnf hns hsz hd
  obtain ⟨n, args⟩ := c
  obtain ⟨kind, name, field, sign, va, vc, vals, wa, wc, whs, within, number, aa, ac⟩ := n
  simp only [Cn.nd, Cn.args] at *
  obtain ⟨nv, hnv⟩ : ∃ z, vals.length = z := ⟨_, rfl⟩
  obtain ⟨nw, hnw⟩ : ∃ z, whs.length = z := ⟨_, rfl⟩
  obtain ⟨na, hna⟩ : ∃ z, args.length = z := ⟨_, rfl⟩
  rw [hnv, hnw, hna] at C0 C2 ⊢
  clear hnv hnw hna
  have HX := Lib.hid (XB.new w [.int .i64 kind, .string name, .string field, .string sign, .slice va nv vc, .slice wa nw wc, .int .i64 within, .int .i64 number, .slice aa na ac] 30)
  have HBa := Lib.hid ((Below.refl w.heap.size w).alloc (Nat.le_refl _) (.cells #[.int .i64 kind, .string name, .string field, .string sign, .slice va nv vc, .slice wa nw wc, .int .i64 within, .int .i64 number, .slice aa na ac] 30))
  have HTa := Lib.hid (HT.out.alloc (.cells #[.int .i64 kind, .string name, .string field, .string sign, .slice va nv vc, .slice wa nw wc, .int .i64 within, .int .i64 number, .slice aa na ac] 30))
  have HTBa := Lib.hid (HTB.out.alloc (.cells #[.int .i64 kind, .string name, .string field, .string sign, .slice va nv vc, .slice wa nw wc, .int .i64 within, .int .i64 number, .slice aa na ac] 30))
  go_enter Tryz.func11, Tryz.ntmps11
  go_wp2_with fail
  ((with_reducible refine (C0.out _ HTa.out HTBa.out).mono ?_); rintro e w1 ⟨rfl, hb⟩)
  have HX1 := Lib.hid (HX.out.below hb)
  have HB1 := Lib.hid (HBa.out.trans (hb.mono HBa.out.size))
  clear hb HX HBa HTa HTBa C0
  generalize w.heap.size = q0 at HX1 ⊢
  by_cases h0 : E0 = 0
  · subst h0
    have HR1 := Lib.hid (HR.out.trans (if_neg fun h => h rfl))
    clear HR
    by_cases h30 : 30 < nf
    · obtain rfl : E1 = 2 := HE1.out.trans (if_pos h30)
      have hd : decide (30 < nf) = true := decide_eq_true h30
      have HR2 : Hid (R = 2) := Lib.hid (HR1.out.trans (if_pos (by decide)))
      go_wp2_with fail
      go_ret
      exact ⟨ret_int HR2.out.symm, HB1.out⟩
    · have HV0 := Lib.hid (show E1 = goE (nnE f) (nf - 0) 0 from HE1.out.trans (if_neg h30))
      have hd : decide (30 < nf) = false := decide_eq_false h30
      clear HE1
      go_wp2_with fail
      go_loopw [21] (fun i wr => ∃ k : Nat, k ≤ nf ∧ i = .int .i64 k ∧ Below w1.heap.size w1 wr ∧ Hid (E1 = goE (nnE f) (nf - k) k)) (fun i _ => nf - (intOf i).toNat)
      case atStart => exact ⟨0, Nat.zero_le _, rfl, Below.refl _ _, HV0⟩
      case round =>
        obtain ⟨k, hk, rfl, hBr, hH⟩ := hrel
        have HBr0 := Lib.hid hBr
        have hB0 := HB1.out.trans (hBr.mono HB1.out.size)
        clear hBr
        by_cases hlt : k < nf
        · --@r1
          have hkl : k < f.length := by have := HN.out; omega
          have hRI := HF.out.row.below hB0
          obtain ⟨p, off, rfl, hp, c0, c1, c2⟩ := hRI.at3n hkl
          obtain ⟨ok1, ok2⟩ := HF.out.ok f[k] (List.getElem_mem hkl)
          have HST := Lib.hid (show E1 = if nnE f k = 0 then goE (nnE f) (nf - (k + 1)) (k + 1) else nnE f k from hH.out.trans (goE_step (nnE f) nf k hlt))
          have HTT := Lib.hid (show nnE f k = ndX (keyB (f.getD k default).name) (decide (1 ≤ (f.getD k default).kind ∧ (f.getD k default).kind ≤ 4)) (decide (0 < k) && leN (f.getD k default).name (f.getD (k - 1) default).name) from rfl)
          rw [getN f k hkl] at HTT
          have HPV := Lib.hid (fun h0 : 0 < k => prevN hRI h0 hkl)
          clear hRI
          generalize f[k] = x at *
          obtain ⟨xname, xkind, xmust⟩ := x
          simp only at c0 c1 c2 ok1 HTT
          have CK := Lib.hid (fun w => keyOf_any xname w (by unfold maxLen; omega))
          obtain ⟨b1, hb1⟩ : ∃ b, keyB xname = b := ⟨_, rfl⟩
          rw [hb1] at HTT CK
          have HB := Lib.hid (hB0.alloc hB0.size (.cells #[.string xname, .int .i64 xkind, .bool xmust] 61))
          have HBr := Lib.hid (HBr0.out.alloc HBr0.out.size (.cells #[.string xname, .int .i64 xkind, .bool xmust] 61))
          have HXk := Lib.hid (XB.new wr [.string xname, .int .i64 xkind, .bool xmust] 61)
          have HPA := Lib.hid (fun (y : ByteArray) (j : Nat) (h : wr.cell? ⟨p, j, none⟩ = some (.string y)) => (World.cell?_alloc_lt wr (.cells #[.string xname, .int .i64 xkind, .bool xmust] 61) ⟨p, j, none⟩ hp).trans h)
          have hpa : p < (wr.alloc (.cells #[.string xname, .int .i64 xkind, .bool xmust] 61)).heap.size := by rw [World.size_alloc]; omega
          clear hb1 hH hB0 HBr0
          go_wp2_with fail
          ((with_reducible refine (CK.out _).mono ?_); rintro e w2 ⟨rfl, hb⟩)
          have HB2 := Lib.hid (HB.out.trans (hb.mono HB.out.size))
          have HBr2 := Lib.hid (HBr.out.trans (hb.mono HBr.out.size))
          have HX2 := Lib.hid (HXk.out.below hb)
          have HPC := Lib.hid (fun (y : ByteArray) (j : Nat) (h : wr.cell? ⟨p, j, none⟩ = some (.string y)) => (hb.cell (p := ⟨p, j, none⟩) hpa).trans (HPA.out y j h))
          clear hb HB HXk HBr HPA hpa CK c0 c1 c2
          cases b1 with
          | false =>
            have HR2 : Hid (R = 5) := Lib.hid (by
              have e : E1 = 5 := by rw [HST.out, HTT.out]; simp [ndX]
              rw [HR1.out, e]; simp)
            clear HPV HPC
            go_wp2_with fail
            go_ret
            exact ⟨ret_int HR2.out.symm, HB2.out⟩
          | true =>
            have x0 := HX2.out.2 0 _ rfl
            have x1 := HX2.out.2 1 _ rfl
            by_cases hlo : xkind < 1
            · have HR2 : Hid (R = 4) := Lib.hid (by
                have e : E1 = 4 := by rw [HST.out, HTT.out, decide_eq_false (by omega)]; simp [ndX]
                rw [HR1.out, e]; simp)
              have hdl : decide (xkind < 1) = true := decide_eq_true hlo
              clear HPV HPC
              go_wp2_with fail
              go_ret
              exact ⟨ret_int HR2.out.symm, HB2.out⟩
            · have hdl : decide (xkind < 1) = false := decide_eq_false hlo
              by_cases hhi : 4 < xkind
              · have HR2 : Hid (R = 4) := Lib.hid (by
                  have e : E1 = 4 := by rw [HST.out, HTT.out, decide_eq_false (by omega)]; simp [ndX]
                  rw [HR1.out, e]; simp)
                have hdh : decide (4 < xkind) = true := decide_eq_true hhi
                clear HPV HPC
                go_wp2_with fail
                go_ret
                exact ⟨ret_int HR2.out.symm, HB2.out⟩
              · have hdh : decide (4 < xkind) = false := decide_eq_false hhi
                rw [decide_eq_true (show 1 ≤ xkind ∧ xkind ≤ 4 by omega)] at HTT
                by_cases hk0 : 0 < k
                · obtain ⟨y, hy, cy0⟩ := HPV.out hk0
                  rw [hy] at HTT
                  have hd0 : decide (0 < (k : Int)) = true := by simp; omega
                  have cy := HPC.out _ _ cy0
                  have hsp : (Op.bytesLess xname.toList y.toList || xname.toList == y.toList) = leN xname y := rfl
                  obtain ⟨b3, hb3⟩ : ∃ b, leN xname y = b := ⟨_, rfl⟩
                  rw [hb3] at HTT hsp
                  clear hb3 hy cy0 HPV HPC
                  cases b3 with
                  | true =>
                    have HR2 : Hid (R = 7) := Lib.hid (by
                      have e : E1 = 7 := by rw [HST.out, HTT.out]; simp [ndX, hk0]
                      rw [HR1.out, e]; simp)
                    go_wp2_with fail
                    go_quiet (fail)
                    go_wp2_with fail
                    go_ret
                    exact ⟨ret_int HR2.out.symm, below_drewN HB2.out _⟩
                  | false =>
                    have HRn := Lib.hid (HST.out.trans (show _ = goE (nnE f) (nf - (k + 1)) (k + 1) by rw [HTT.out, ndX_ok rfl rfl (by simp), if_pos rfl]))
                    go_wp2_with fail
                    go_quiet (fail)
                    go_wp2_with fail
                    go_roundw
                    case rel => exact ⟨k + 1, by omega, by go_num, below_drewN HBr2.out _, HRn⟩
                    case measure => simp [intOf]; omega
                · have hd0 : decide (0 < (k : Int)) = false := by simp; omega
                  have HRn := Lib.hid (HST.out.trans (show _ = goE (nnE f) (nf - (k + 1)) (k + 1) by rw [HTT.out, ndX_ok rfl rfl (by simp; omega), if_pos rfl]))
                  clear HPV HPC
                  go_wp2_with fail
                  go_quiet (fail)
                  go_wp2_with fail
                  go_roundw
                  case rel => exact ⟨k + 1, by omega, by go_num, below_drewN HBr2.out _, HRn⟩
                  case measure => simp [intOf]; omega
          --@end
        · --@r2
          obtain rfl : E1 = 0 := hH.out.trans (show _ = (0 : Int) by rw [show nf - k = 0 by omega]; rfl)
          have HR2 := Lib.hid (HR1.out.trans (if_neg fun h => h rfl))
          have HX3 := Lib.hid (HX1.out.below HBr0.out)
          have HB3 := Lib.hid hB0
          have HS3 := Lib.hid (HS.out.below hB0)
          have HT3 := Lib.hid (HT.out.below hB0)
          have HF3 := Lib.hid (HF.out.below hB0)
          clear hB0 hH HR1 HX1 HB1 HBr0
          go_wp2_with fail
          ((with_reducible refine (C1.out _ HS3.out).mono ?_); rintro e w2 ⟨rfl, hb⟩)
          have HX4 := Lib.hid (HX3.out.below hb)
          have HB4 := Lib.hid (HB3.out.trans (hb.mono HB3.out.size))
          have HS4 := Lib.hid (HS3.out.below hb)
          have HT4 := Lib.hid (HT3.out.below hb)
          have HF4 := Lib.hid (HF3.out.below hb)
          clear hb HX3 HB3 HS3 HT3 HF3 C1
          by_cases h2 : E2 = 0
          · subst h2
            have HR3 := Lib.hid (HR2.out.trans (if_neg fun h => h rfl))
            have x0 := HX4.out.2 0 _ rfl
            have x1 := HX4.out.2 1 _ rfl
            have x2 := HX4.out.2 2 _ rfl
            have x3 := HX4.out.2 3 _ rfl
            have x4 := HX4.out.2 4 _ rfl
            have x5 := HX4.out.2 5 _ rfl
            have x6 := HX4.out.2 6 _ rfl
            have x7 := HX4.out.2 7 _ rfl
            have x8 := HX4.out.2 8 _ rfl
            have xl := HX4.out.1
            go_wp2_with fail
            clear x0 x1 x2 x3 x4 x5 x6 x7 x8 xl
            ((with_reducible refine (C2.out _ HT4.out HF4.out HS4.out).mono ?_); rintro e w3 ⟨rfl, hb⟩)
            have HB5 := Lib.hid (HB4.out.trans (hb.mono HB4.out.size))
            clear hb
            go_wp2_with fail
            go_ret
            exact ⟨ret_int HR3.out.symm, HB5.out⟩
          · have h4 : (E2 != 0) = true := by simpa using h2
            have HR3 := Lib.hid (HR2.out.trans (if_pos h2))
            clear h2
            go_wp2_with fail
            go_ret
            exact ⟨ret_int HR3.out.symm, HB4.out⟩
          --@end
  · have h4 : (E0 != 0) = true := by simpa using h0
    have HR1 := Lib.hid (HR.out.trans (if_pos h0))
    clear h0
    go_wp2_with fail
    go_ret
    exact ⟨ret_int HR1.out.symm, HB1.out⟩
end Go.Proofs.YtfdpfkdfglombaaGreatDoor
/- (*Stream).AnyCond by itself (printed by gen_tyany.py out of XCNmF). -/
set_option linter.unusedVariables false
namespace Go.Proofs.YtfdpfkdfglombaaGreatDoor
open Go.RowKit

/-- what the maker of any condition leaves -/
def GenAT (S : SC) (K : Nat) (w : World) (e : Ending) (w' : World) : Prop := ∃ (d : Nat) (c : Cn), d ≤ 27 ∧ szN d c ≤ 3000 ∧ e = .returned c.agg ∧ TAt d w' c ∧ FarT d c S.g ∧ w.grownBy w' (some S.g) ∧ Strm w' S K
set_option maxRecDepth 100000 in
set_option maxHeartbeats 4000000 in
theorem anyCondT_any (S : SC) (K : Nat) (w : World) (hs : Strm w S K) (hK : K + kcC 3 ≤ 9000) : Calls Tryz.prog 6 #[S.p] w (GenAT S (K + kcC 3 + 1 + 41) w) := by
  have s0 := strm_alloc hs (.cells #[.int .i64 0, .string ⟨#[]⟩, .string ⟨#[]⟩, .string ⟨#[]⟩, .slice none 0 0, .slice none 0 0, .int .i64 0, .int .i64 0, .slice none 0 0] 30)
  have hS := strm_lt hs
  have HZ : Hid (OB (w.alloc (.cells #[.int .i64 0, .string ⟨#[]⟩, .string ⟨#[]⟩, .string ⟨#[]⟩, .slice none 0 0, .slice none 0 0, .int .i64 0, .int .i64 0, .slice none 0 0] 30)) w.heap.size condZ 30) := Lib.hid (OB.new w condZ 30)
  have HG0 := Lib.hid (World.grownBy_alloc w (.cells #[.int .i64 0, .string ⟨#[]⟩, .string ⟨#[]⟩, .string ⟨#[]⟩, .slice none 0 0, .slice none 0 0, .int .i64 0, .int .i64 0, .slice none 0 0] 30) (some S.g))
  clear hs
  go_enter Tryz.func6, Tryz.ntmps6
  go_wp2_with fail
  with_reducible refine (cond_any 3 S 3 (by omega) rfl K _ s0 hK).mono ?_
  rintro e w1 ⟨x, rfl, hT, hF, hsz, k1, s1⟩
  have HSZ := Lib.hid hsz
  have HFS := Lib.hid (hF S.g (by have := strm_lt s0; exact this))
  have HFZ := Lib.hid (hF w.heap.size (by simp))
  obtain ⟨q2, hq2⟩ : ∃ z, w.heap.size = z := ⟨_, rfl⟩
  rw [hq2] at HZ HFZ hS ⊢
  have HZ1 := Lib.hid (HZ.out.grown k1 (fun e => by have := Option.some.inj e; omega))
  have HG1 := Lib.hid (grown_trans HG0.out k1)
  have HTx := Lib.hid hT
  have hql := HZ1.out.lt
  have hsl := strm_lt s1
  have HWQ : Hid (w.heap.size ≤ q2) := Lib.hid (by omega)
  clear hq2 hT hF hsz k1 HZ HG0 s0
  have HOx := Lib.hid (OB.new w1 x.cells 30)
  have HT2 := Lib.hid (HTx.out.alloc (.cells x.cells.toArray 30))
  have HFX := Lib.hid (HTx.out.newFar (Nat.le_refl _))
  have HZ2 := Lib.hid (HZ1.out.alloc (.cells x.cells.toArray 30))
  have HG2 := Lib.hid (grown_trans HG1.out (World.grownBy_alloc w1 (.cells x.cells.toArray 30) (some S.g)))
  have s2 := strm_alloc s1 (.cells x.cells.toArray 30)
  clear s1 HTx HZ1 HG1
  rw [show x.cells.toArray = #[.int .i64 x.nd.kind, .string x.nd.name, .string x.nd.field, .string x.nd.sign, .slice x.nd.va x.nd.vals.length x.nd.vc, .slice x.nd.wa x.nd.whs.length x.nd.wc, .int .i64 x.nd.within, .int .i64 x.nd.number, .slice x.nd.aa x.args.length x.nd.ac] from rfl]
  go_upto_region 2 with (fail)
  rw [show (Obj.cells #[.int .i64 x.nd.kind, .string x.nd.name, .string x.nd.field, .string x.nd.sign, .slice x.nd.va x.nd.vals.length x.nd.vc, .slice x.nd.wa x.nd.whs.length x.nd.wc, .int .i64 x.nd.within, .int .i64 x.nd.number, .slice x.nd.aa x.args.length x.nd.ac] 30) = .cells x.cells.toArray 30 from rfl]
  generalize w1.alloc (.cells x.cells.toArray 30) = w2 at *
  obtain ⟨q3, hq3⟩ : ∃ z, w1.heap.size = z := ⟨_, rfl⟩
  rw [hq3] at HOx HFX hql hsl ⊢
  clear hq3
  go_wp2_with fail
  with_reducible refine (flip_any S _ _ _ s2 (by omega) (by omega)).mono ?_
  rintro e w3 ⟨b, rfl, k3, s3⟩
  have HT3 := Lib.hid (HT2.out.kept k3 (fun g e => by obtain rfl := Option.some.inj e; exact HFS.out))
  have HO3 := Lib.hid (OB.grown HOx.out k3 (fun e => by have := Option.some.inj e; omega))
  have HZ3 := Lib.hid (OB.grown HZ2.out k3 (fun e => by have := Option.some.inj e; omega))
  have HG3 := Lib.hid (grown_trans HG2.out k3)
  clear k3 s2 HT2 HOx HZ2 HG2
  go_upto_if 7 with (fail)
  go_cut [] (fun wx => ∃ (d : Nat) (c : Cn), d ≤ 27 ∧ szN d c ≤ 3000 ∧ TAt d wx c ∧ FarT d c S.g ∧ FarT d c q2 ∧ OB wx q3 c.cells 30 ∧ OB wx q2 condZ 30 ∧ w.grownBy wx (some S.g) ∧ Strm wx S (K + kcC 3 + 1 + 41))
  case first =>
    cases b with
    | false =>
      go_wp2_with fail
      go_meet
      exact ⟨7, x, by omega, Nat.le_trans HSZ.out.1 (by decide), HT3.out, HFS.out, HFZ.out, HO3.out, HZ3.out, HG3.out, strm_mono s3 (by omega)⟩
    | true =>
      have C : Hid (Calls Tryz.prog 27 #[S.p, .agg #[.int .i64 x.nd.kind, .string x.nd.name, .string x.nd.field, .string x.nd.sign, .slice x.nd.va x.nd.vals.length x.nd.vc, .slice x.nd.wa x.nd.whs.length x.nd.wc, .int .i64 x.nd.within, .int .i64 x.nd.number, .slice x.nd.aa x.args.length x.nd.ac]] w3 (GenSp S (K + kcC 3 + 1 + 3 * 7 + 20) w3 7 x (7 + 20) ((7 + 1) * szN 7 x + 20))) := Lib.hid (spoil_any S 7 x (K + kcC 3 + 1) w3 HT3.out HFS.out HSZ.out.2 s3 (by omega))
      have y0 := HO3.out.cell 0 (.int .i64 x.nd.kind) rfl
      have y1 := HO3.out.cell 1 (.string x.nd.name) rfl
      have y2 := HO3.out.cell 2 (.string x.nd.field) rfl
      have y3 := HO3.out.cell 3 (.string x.nd.sign) rfl
      have y4 := HO3.out.cell 4 (.slice x.nd.va x.nd.vals.length x.nd.vc) rfl
      have y5 := HO3.out.cell 5 (.slice x.nd.wa x.nd.whs.length x.nd.wc) rfl
      have y6 := HO3.out.cell 6 (.int .i64 x.nd.within) rfl
      have y7 := HO3.out.cell 7 (.int .i64 x.nd.number) rfl
      have y8 := HO3.out.cell 8 (.slice x.nd.aa x.args.length x.nd.ac) rfl
      have yl := HO3.out.lt
      go_wp2_with fail
      with_reducible refine C.out.mono ?_
      rintro e w4 ⟨x', rfl, hT, hFo, hszn, k4, s4⟩
      have HFQ' := Lib.hid (hFo q3 yl HFX.out)
      have HFZ' := Lib.hid (hFo q2 HZ3.out.lt HFZ.out)
      have HFS' := Lib.hid (hFo S.g (strm_lt s3) HFS.out)
      have HT4 := Lib.hid hT
      have HO4 := Lib.hid (OB.grown HO3.out k4 (fun e => by have := Option.some.inj e; omega))
      have HZ4 := Lib.hid (OB.grown HZ3.out k4 (fun e => by have := Option.some.inj e; omega))
      have HG4 := Lib.hid (grown_trans HG3.out k4)
      have HS4 : Hid (szN 27 x' ≤ 3000) := Lib.hid (Nat.le_trans hszn (by have : szN 7 x ≤ 311 := Nat.le_trans HSZ.out.1 (by decide); omega))
      clear hT hFo hszn k4 s3 C y0 y1 y2 y3 y4 y5 y6 y7 y8 yl HT3 HO3 HZ3 HG3
      simp only [Cn.cells]
      go_wp2_with (refine wpList_store_oc _ rfl _ _ _ rfl q3 _ _ _ rfl rfl HO4.out sizeCond rfl rfl ?_)
      intro wz oz kz
      have HTz := Lib.hid (HT4.out.kept kz (fun g e => by obtain rfl := Option.some.inj e; exact HFQ'.out))
      have hne : q3 ≠ q2 := fun e => by have := HZ4.out; have := HO4.out; omega
      have HZz := Lib.hid (OB.grown HZ4.out kz (fun e => hne (Option.some.inj e)))
      have HGz := Lib.hid (grown_own HG4.out kz (fun b hb => by have := Option.some.inj hb; have := HWQ.out; omega))
      have sz := strm_own s4 kz (fun b hb => by have := Option.some.inj hb; omega)
      have HOz := Lib.hid oz
      clear oz kz s4
      go_wp2_with fail
      go_meet
      exact ⟨27, x', Nat.le_refl _, HS4.out, HTz.out, HFS'.out, HFZ'.out, HOz.out, HZz.out, HGz.out, strm_mono sz (by omega)⟩
  case rest =>
  obtain ⟨d, c, hd, hcs, hT, hFs, hFq, hO, hZ, hG, hs⟩ := hcut
  clear HT3 HO3 HZ3 HG3 s3
  have HT5 := Lib.hid hT
  have HO5 := Lib.hid hO
  have HZ5 := Lib.hid hZ
  have HG5 := Lib.hid hG
  have HF5 := Lib.hid (And.intro hFs hFq)
  clear hT hO hZ hG hFs hFq
  have y0 := HO5.out.cell 0 (.int .i64 c.nd.kind) rfl
  have y1 := HO5.out.cell 1 (.string c.nd.name) rfl
  have y2 := HO5.out.cell 2 (.string c.nd.field) rfl
  have y3 := HO5.out.cell 3 (.string c.nd.sign) rfl
  have y4 := HO5.out.cell 4 (.slice c.nd.va c.nd.vals.length c.nd.vc) rfl
  have y5 := HO5.out.cell 5 (.slice c.nd.wa c.nd.whs.length c.nd.wc) rfl
  have y6 := HO5.out.cell 6 (.int .i64 c.nd.within) rfl
  have y7 := HO5.out.cell 7 (.int .i64 c.nd.number) rfl
  have y8 := HO5.out.cell 8 (.slice c.nd.aa c.args.length c.nd.ac) rfl
  have yl := HO5.out.lt
  go_wp2_with (refine wpList_store_oc _ rfl _ _ _ rfl q2 _ _ _ rfl rfl HZ5.out sizeCond rfl rfl ?_)
  intro wz oz kz
  have r0 := oz.cell 0 _ rfl
  have r1 := oz.cell 1 _ rfl
  have r2 := oz.cell 2 _ rfl
  have r3 := oz.cell 3 _ rfl
  have r4 := oz.cell 4 _ rfl
  have r5 := oz.cell 5 _ rfl
  have r6 := oz.cell 6 _ rfl
  have r7 := oz.cell 7 _ rfl
  have r8 := oz.cell 8 _ rfl
  have HKz := Lib.hid kz
  clear oz kz
  go_wp2_with fail
  refine bodyPost_ret (v := .agg #[.int .i64 c.nd.kind, .string c.nd.name, .string c.nd.field, .string c.nd.sign, .slice c.nd.va c.nd.vals.length c.nd.vc, .slice c.nd.wa c.nd.whs.length c.nd.wc, .int .i64 c.nd.within, .int .i64 c.nd.number, .slice c.nd.aa c.args.length c.nd.ac]) (by simp [results, Tryz.results6, go_sem, r0, r1, r2, r3, r4, r5, r6, r7, r8]) rfl ?_
  exact ⟨d, c, hd, hcs, rfl, HT5.out.kept HKz.out (fun g e => by obtain rfl := Option.some.inj e; exact HF5.out.2), HF5.out.1, grown_own HG5.out HKz.out (fun b hb => by have := Option.some.inj hb; have := HWQ.out; omega), strm_own hs HKz.out (fun b hb => by have := Option.some.inj hb; omega)⟩
end Go.Proofs.YtfdpfkdfglombaaGreatDoor
/- (*Stream).Needs: fields of records, mostly right ones. -/
set_option linter.unusedVariables false
namespace Go.Proofs.YtfdpfkdfglombaaGreatDoor
open Go.RowKit

theorem infoNeed : (Tryz.prog.info? 61).map (fun i => (i.zero, i.size, i.bytes)) = some (some (.agg #[.string ⟨#[]⟩, .int .i64 0, .bool false]), 3, 32) := by kernel_rfl
theorem grownT_same (w : World) (row : Option Nat) : w.grownBy w row := ⟨rfl, rfl, rfl, Nat.le_refl _, fun _ _ _ => rfl⟩
def kdL : List Value := [.int .i64 2, .int .i64 1, .int .i64 3, .int .i64 4]
def fdLn : List Value := [.string ⟨#[97, 103, 101]⟩, .string ⟨#[99, 105, 116, 121]⟩, .string ⟨#[110, 101, 119, 115]⟩, .string ⟨#[115, 105, 110, 99, 101, 45, 100, 97, 121]⟩]
theorem kdL_at {k : Nat} (h : k < 4) : ∃ z : Int, (1 ≤ z ∧ z ≤ 4) ∧ kdL[k]? = some (.int .i64 z) := by
  rcases (show k = 0 ∨ k = 1 ∨ k = 2 ∨ k = 3 by omega) with rfl | rfl | rfl | rfl
  · exact ⟨2, by omega, rfl⟩
  · exact ⟨1, by omega, rfl⟩
  · exact ⟨3, by omega, rfl⟩
  · exact ⟨4, by omega, rfl⟩
theorem fdLn_at {k : Nat} (h : k < 4) : ∃ s : ByteArray, s.size ≤ 1000 ∧ fdLn[k]? = some (.string s) := by
  rcases (show k = 0 ∨ k = 1 ∨ k = 2 ∨ k = 3 by omega) with rfl | rfl | rfl | rfl
  · exact ⟨_, by decide, rfl⟩
  · exact ⟨_, by decide, rfl⟩
  · exact ⟨_, by decide, rfl⟩
  · exact ⟨_, by decide, rfl⟩
/-- the fields being made, and the lists that they are made from -/
structure NW (w : World) (S : SC) (b0 kb fb : Nat) (v : Value) (l : List Nn) (K : Nat) (wr : World) : Prop where
  ls : LstR w b0 wr S K 61 3 Nn.cells v l
  kd : OB wr kb kdL 3
  fd : OB wr fb fdLn 9
  h1 : S.g < kb
  h2 : kb < fb
  h3 : fb < b0
  h4 : w.heap.size ≤ kb
section
variable {w wr w' : World} {S : SC} {b0 kb fb K K' : Nat} {v v' : Value} {l : List Nn}
theorem NW.strm (h : NW w S b0 kb fb v l K wr) : Strm wr S K := h.ls.2.1
theorem NW.draw (h : NW w S b0 kb fb v l K wr) (k : wr.grownBy w' (some S.g)) (s : Strm w' S K') : NW w S b0 kb fb v l K' w' :=
  ⟨h.ls.draw k s (by have := h.h1; have := h.h2; have := h.h3; omega), h.kd.grown k (fun e => by have := Option.some.inj e; have := h.h1; omega), h.fd.grown k (fun e => by have := Option.some.inj e; have := h.h1; have := h.h2; omega), h.h1, h.h2, h.h3, h.h4⟩
theorem NW.mono (h : NW w S b0 kb fb v l K wr) (hK : K ≤ K') : NW w S b0 kb fb v l K' wr := h.draw (grownT_same _ _) (strm_mono h.strm hK)
theorem NW.alloc (h : NW w S b0 kb fb v l K wr) (o : Obj) : NW w S b0 kb fb v l K (wr.alloc o) := h.draw (World.grownBy_alloc _ _ _) (strm_alloc h.strm _)
theorem NW.app {x : Nn} (h : NW w S b0 kb fb v l K wr) (own' : w'.ownsRow b0 61 3 v' (l.length + 1) (l.flatMap Nn.cells ++ x.cells)) (k : wr.grownBy w' v.ownBlock) : NW w S b0 kb fb v' (l ++ [x]) K w' := by
  obtain ⟨⟨own, s0, g, hb0⟩, kd, fd, h1, h2, h3, h4⟩ := h
  have hr := fun q hq => (own.lt q hq).1
  refine ⟨⟨by simpa using own', strm_own s0 k (fun q e => by have := hr q e; omega), ?_, by have := k.size; omega⟩, kd.grown k (fun e => by have := hr _ e; omega), fd.grown k (fun e => by have := hr _ e; omega), h1, h2, h3, h4⟩
  exact ⟨k.os.trans g.os, k.tape.trans g.tape, k.output.trans g.output, Nat.le_trans g.size k.size, fun i hi hne => (k.block i (Nat.lt_of_lt_of_le hi g.size) (fun e => by have := hr i e.symm; omega)).trans (g.block i hi hne)⟩
end
/-- what the region that appends a field keeps -/
structure JNt (w : World) (S : SC) (b0 kb fb : Nat) (v : Value) (l : List Nn) (kd : Int) (K0 : Nat) (b : Msk) (u : Nat → Value) (wr : World) : Prop where
  base : NW w S b0 kb fb v l (K0 + (b 7).toNat) wr
  p5 : b 5 = true → u 24 = .int .i64 kd
  p7 : b 7 = true → ∃ y : Bool, u 26 = .bool y

set_option maxRecDepth 100000 in
set_option maxHeartbeats 16000000 in
theorem Needs_any (S : SC) (K : Nat) (w : World) (s0 : Strm w S K) (hK : K ≤ 100000) :
    Calls Tryz.prog 7 #[S.p] w (GenR S (K + 20) w 3 Nn.cells fun l => l.length ≤ 4 ∧ ∀ x ∈ l, x.ok) := by
  obtain ⟨i0, hi, hz0, hz1, hz2⟩ := info_parts infoNeed
  have hS := strm_lt s0
  have W0 : Hid (NW w S (w.heap.size + 2) w.heap.size (w.heap.size + 1) (.slice none 0 0) [] K ((w.alloc (.cells #[.int .i64 2, .int .i64 1, .int .i64 3, .int .i64 4] 3)).alloc (.cells #[.string ⟨#[97, 103, 101]⟩, .string ⟨#[99, 105, 116, 121]⟩, .string ⟨#[110, 101, 119, 115]⟩, .string ⟨#[115, 105, 110, 99, 101, 45, 100, 97, 121]⟩] 9))) := Lib.hid (by
    have hz : (w.alloc (.cells #[.int .i64 2, .int .i64 1, .int .i64 3, .int .i64 4] 3)).heap.size = w.heap.size + 1 := World.size_alloc _ _
    have f1 := OB.new (w.alloc (.cells #[.int .i64 2, .int .i64 1, .int .i64 3, .int .i64 4] 3)) fdLn 9
    rw [hz] at f1
    exact ⟨⟨World.ownsRow_nil _ _ _ _, strm_alloc (strm_alloc s0 _) _, grown_alloc (grown_alloc (grownT_same _ _) _) _, by rw [World.size_alloc, World.size_alloc]; omega⟩, (OB.new w kdL 3).grown (row := some S.g) (World.grownBy_alloc _ _ _) (fun e => by have := Option.some.inj e; omega), f1, hS, by omega, by omega, Nat.le_refl _⟩)
  clear s0
  go_enter Tryz.func7, Tryz.ntmps7
  go_wp2_with fail
  with_reducible refine (condFields_any _).mono ?_
  rintro e w1 ⟨rfl, rfl⟩
  rw [show (w.alloc (.cells #[.int .i64 2, .int .i64 1, .int .i64 3, .int .i64 4] 3)).heap.size = w.heap.size + 1 from World.size_alloc _ _]
  generalize (w.alloc (.cells #[.int .i64 2, .int .i64 1, .int .i64 3, .int .i64 4] 3)).alloc (.cells #[.string ⟨#[97, 103, 101]⟩, .string ⟨#[99, 105, 116, 121]⟩, .string ⟨#[110, 101, 119, 115]⟩, .string ⟨#[115, 105, 110, 99, 101, 45, 100, 97, 121]⟩] 9) = w1 at *
  obtain ⟨kb, hkb⟩ : ∃ z, w.heap.size = z := ⟨_, rfl⟩
  rw [hkb] at W0 ⊢
  obtain ⟨fb, hfb⟩ : ∃ z, kb + 1 = z := ⟨_, rfl⟩
  obtain ⟨b0, hb0⟩ : ∃ z, kb + 2 = z := ⟨_, rfl⟩
  rw [hfb, hb0] at W0
  rw [hfb]
  have hS1 : S.g < b0 := by omega
  have hw1 : w.heap.size ≤ b0 := by omega
  clear hkb hfb hb0 hS
  go_wp2_with fail
  go_loopw [3, 5, 6, 11] (fun v _ _ i wr => ∃ (k : Nat) (l : List Nn), k ≤ 4 ∧ i = .int .i64 k ∧ l.length ≤ k ∧ (∀ x ∈ l, x.ok) ∧ NW w S b0 kb fb v l (K + 2 * k) wr) (fun _ _ _ i _ => 4 - (intOf i).toNat)
  case atStart => exact ⟨0, [], Nat.zero_le _, rfl, Nat.le_refl _, by simp, W0.out⟩
  case round =>
    obtain ⟨k, l, hk, rfl, hl, hok, hW⟩ := hrel
    have HW := Lib.hid hW
    have HOK := Lib.hid hok
    clear hW hok W0
    by_cases hlt : k < 4
    · --@r1
      obtain ⟨kd, hkd, hkl⟩ := kdL_at hlt
      obtain ⟨nm, hnm, hnl⟩ := fdLn_at hlt
      have cF := HW.out.fd.cell k _ hnl
      have hfl := HW.out.fd.lt
      have s2 := HW.out.strm
      go_wp2_with fail
      with_reducible refine (flip_any S _ _ _ s2 (by omega) (by omega)).mono ?_
      rintro e w3 ⟨b, rfl, k3, s3⟩
      have HW3 := Lib.hid (HW.out.draw k3 s3)
      clear k3 s3 s2 HW cF hfl
      cases b with
      | true =>
        go_wp2_with fail
        go_roundw
        case rel => exact ⟨k + 1, l, by omega, by go_num, by omega, HOK.out, HW3.out.mono (by omega)⟩
        case measure => simp [intOf]; omega
      | false =>
        go_upto_region 7 with (fail)
        refine wp_region_any (by kernel_rfl) ?_
        change wpAny _ _ _ _ _ _ _ (World.drew _)
        obtain ⟨K1, hK1⟩ : ∃ z, K + 2 * k + 1 = z := ⟨_, rfl⟩
        rw [hK1] at HW3
        have HWd : Hid (NW w S b0 kb fb u3 l K1 w3.drew) := Lib.hid (HW3.out.draw (grown_drew (grownT_same w3 _)) (show Strm w3.drew S K1 from HW3.out.strm))
        clear HW3
        generalize w3.drew = wd at *
        refine wpAny_take (i := 0) (oi := ⟨some 19, _, _, _, _, _⟩) (v := u3) rfl (by kernel_rfl) (by kernel_rfl) (by kernel_rfl) (fun _ _ _ h => h) (Or.inl ⟨by rfl, fun w => by go_simp⟩) ?_
        refine wpAny_take (i := 1) (oi := ⟨some 20, _, _, _, _, _⟩) (v := .string nm) rfl (by kernel_rfl) (by kernel_rfl) (by kernel_rfl) (fun _ _ _ h => h) (Or.inl ⟨by rfl, fun w => by go_simp⟩) ?_
        refine wpAny_take (i := 2) (oi := ⟨some 21, _, _, _, _, _⟩) (v := .slice (some ⟨kb, 0, none⟩) 4 4) rfl (by kernel_rfl) (by kernel_rfl) (by kernel_rfl) (fun _ _ _ h => h) (Or.inl ⟨by rfl, fun w => by go_simp⟩) ?_
        refine wpAny_take (i := 3) (oi := ⟨some 22, _, _, _, _, _⟩) (v := .int .i64 k) rfl (by kernel_rfl) (by kernel_rfl) (by kernel_rfl) (fun _ _ _ h => h) (Or.inl ⟨by rfl, fun w => by go_simp⟩) ?_
        refine wpAny_take (i := 4) (oi := ⟨some 23, _, _, _, _, _⟩) (v := .pointer (some ⟨kb, k, none⟩)) rfl (by kernel_rfl) (by kernel_rfl) (by kernel_rfl) (fun _ _ _ h => h) (Or.inl ⟨by rfl, fun w => by go_simp⟩) ?_
        refine wpAny_take (i := 6) (oi := ⟨some 25, _, _, _, _, _⟩) (v := S.p) rfl (by kernel_rfl) (by kernel_rfl) (by kernel_rfl) (fun _ _ _ h => h) (Or.inl ⟨by rfl, fun w => by go_simp⟩) ?_
        refine wpAny_mask (n := 4) (m := 6) #[true, true, true, true, true, false, true, false, false, false, false, false] [5, 7] (fun _ => []) [24, 26] (fun d => if d = 24 then u24 else u26) (JNt w S b0 kb fb u3 l kd K1) rfl (by decide) (by kernel_rfl) (by kernel_rfl) ?stp ?hsp ?hendp
        case stp => exact ⟨HWd.out, fun e => (by cases e), fun e => (by cases e)⟩
        case hsp =>
          intro i hi b u wx hbi hD hJ
          simp only [List.mem_cons, List.mem_nil_iff, or_false] at hi
          have HJ := Lib.hid hJ
          rcases hi with rfl | rfl
          · refine wpOp_calm (o := ⟨some 24, ?ap1, ?ap2, ?ap3, ?ap4, ?ap5⟩) ?api ?apg ?_
            case api => exact rfl
            case apg => exact rfl
            intro K' Q' hK'
            have HK := Lib.hid hK'
            clear hK'
            have y1 := hJ.base.kd.cell k _ hkl
            have yl := hJ.base.kd.lt
            clear hJ
            simp only [setAll, List.foldl]
            go_simp
            exact HK.out _ _ ⟨upd u 24 (.int .i64 kd), by kernel_rfl, ⟨HJ.out.base, fun _ => rfl, fun e => HJ.out.p7 e⟩⟩
          · refine wpOp_calm (o := ⟨some 26, ?cp1, ?cp2, ?cp3, ?cp4, ?cp5⟩) ?cpi ?cpg ?_
            case cpi => exact rfl
            case cpg => exact rfl
            intro K' Q' hK'
            have HK := Lib.hid hK'
            clear hK'
            have sx : Strm wx S K1 := by
              have h := hJ.base.strm
              rw [hbi] at h
              exact h
            have C := Lib.hid (flip_any S K1 3 wx sx (by omega) (by omega))
            clear hJ sx
            simp only [setAll, List.foldl]
            go_simp
            refine C.out.mono ?_
            rintro e w' ⟨y, rfl, k', st⟩
            exact HK.out _ _ ⟨upd u 26 (.bool y), by kernel_rfl, ⟨HJ.out.base.draw k' st, fun e => HJ.out.p5 e, fun _ => ⟨y, rfl⟩⟩⟩
        case hendp =>
          intro b u wx hb hJ
          have h5 := hJ.p5 (hb 5 (by simp))
          obtain ⟨y, h7⟩ := hJ.p7 (hb 7 (by simp))
          have HW := Lib.hid ((hJ.base.mono (show K1 + (b 7).toNat ≤ K + 2 * (k + 1) by cases b 7 <;> simp only [Bool.toNat_true, Bool.toNat_false] <;> omega)))
          simp only [setAll, List.foldl, h5, h7]
          clear h5 h7 hb hJ
          refine wpAny_take (i := 8) (oi := ⟨some 27, _, _, _, _, _⟩) (v := .agg #[.string nm, .int .i64 kd, .bool y]) rfl (by kernel_rfl) (by kernel_rfl) (by kernel_rfl) (fun _ _ _ h => h) (Or.inl ⟨by rfl, fun w => by go_simp⟩) ?_
          refine wpAny_ready (rs := [9]) (by kernel_rfl) (by simp) ?_
          refine AllReady.cons rfl (fun K9 hK9 => ?_) AllReady.nil
          go_simp
          refine hK9 _ _ ?_
          clear hK9 K9
          have HWa := Lib.hid (HW.out.alloc (.cells #[.string nm, .int .i64 kd, .bool y] 61))
          have HOa := Lib.hid (OB.new wx [.string nm, .int .i64 kd, .bool y] 61)
          simp only [List.toArray] at HOa
          have hown := HWa.out.ls.1
          have hsz := HWa.out.ls.2.2.2
          refine wpAny_ready (rs := [10]) (by kernel_rfl) (by simp) ?_
          refine AllReady.cons rfl (fun K6 hK6 => ?_) AllReady.nil
          refine step_append_lies (o := ⟨some 29, _, _, _, _, _⟩) _ (by rfl) (.tmp 19) (.tmp 28) 32 (by rfl) b0 61 i0 _ 3 32 Tryz.underlying32 hi hz0 hz1 hz2 rfl (by decide) u3 l.length _ (by kernel_rfl) hown ⟨wx.heap.size, 0, none⟩ 1 1 [.string nm, .int .i64 kd, .bool y] (by kernel_rfl) (by rfl) ?cnp (by simp [Value.oneCell']) (by decide) (by unfold maxLen; omega) (by omega) hsz _ rfl ?_
          case cnp =>
            intro j z hz
            have := HOa.out.cell j z hz
            rw [Addr.add]
            split
            · rename_i h0; subst h0; exact this
            · simpa using this
          intro g cap wy own hgrow hat hlt2
          have HWy := Lib.hid (HWa.out.app (x := ⟨nm, kd, y⟩) own hgrow)
          refine hK6 _ _ ?_
          clear hK6 K6 own hgrow hat hown HW HWa HOa
          refine wpAny_ready (rs := [11]) (by kernel_rfl) (by simp) ?_
          refine AllReady.cons rfl (fun K8 hK8 => ?_) AllReady.nil
          go_simp
          refine hK8 _ _ ?_
          clear hK8 K8
          refine wpAny_done (by kernel_rfl) ?_ _
          go_wp2_with fail
          go_roundw
          case rel => exact ⟨k + 1, l ++ [⟨nm, kd, y⟩], by omega, by go_num, by simp; omega, fun x hx => (by
            rcases List.mem_append.1 hx with hx | hx
            · exact HOK.out x hx
            · obtain rfl := List.mem_singleton.1 hx
              exact ⟨hnm, by unfold i64B; simp only; omega⟩), HWy.out⟩
          case measure => simp [intOf]; omega
      --@end
    · --@r2
      obtain rfl : k = 4 := by omega
      have s2 := HW.out.strm
      go_wp2_with fail
      with_reducible refine (flip_any S _ _ _ s2 (by omega) (by omega)).mono ?_
      rintro e w3 ⟨b, rfl, k3, s3⟩
      have HL3 := Lib.hid (HW.out.draw k3 s3).ls
      have own3 := HL3.out.1
      have HX := Lib.hid (HL3.out.gen (K' := K + 20) (P := fun l => l.length ≤ 4 ∧ ∀ x ∈ l, x.ok) hS1 (by omega) (fun x _ => x.len) ⟨hl, HOK.out⟩)
      clear HW k3 s2
      cases b with
      | false =>
        go_wp2_with fail
        go_ret
        exact HX.out
      | true =>
        rcases own3.2 with ⟨rfl, h0⟩ | ⟨g, cap, cur, rfl, hbg, hg, hnc, hcm, hcs, htake⟩
        · go_wp2_with fail
          go_ret
          exact HX.out
        · clear hg hcs htake
          by_cases hk0 : l.length = 0
          · have HX' := HX.out
            rw [hk0] at HX'
            have HX2 := Lib.hid HX'
            clear HX HX'
            rw [hk0]
            go_wp2_with fail
            go_ret
            exact HX2.out
          · have hlp : 0 < l.length := by omega
            clear HX
            generalize hn : l.length = n at *
            have HN := Lib.hid hn
            clear hn
            go_wp2_with fail
            with_reducible refine (next_any S _ _ _ s3 (by omega) (by omega)).mono ?_
            rintro e w4 ⟨r, ⟨hr0, hr1, -⟩, rfl, k4, s4⟩
            have hr2 := hr1 (by omega)
            obtain ⟨j, rfl⟩ := Int.eq_ofNat_of_zero_le hr0
            have hj : j < n := by omega
            have HL4 := Lib.hid (HL3.out.draw k4 s4 hS1)
            clear hr0 hr1 hr2 HL3 k4 s3 own3
            have hjl : j < l.length := by have := HN.out; omega
            have hxok := Lib.hid (HOK.out l[j] (List.getElem_mem hjl))
            have own4 := HL4.out.1
            rw [HN.out] at own4
            have hc4 : w4.cell? ⟨g, j * 3 + 0, none⟩ = some (.string l[j].name) := by
              rw [own4.cellAt _ (by omega), fm_get 3 Nn.cells l (fun x _ => x.len) j 0 hjl (by omega)]
              rfl
            have hgl : g < w4.heap.size := (own4.lt g (by simp [Value.ownBlock])).2
            simp only [Nat.add_zero] at hc4
            go_wp2_with fail
            with_reducible refine (one_at S _ [l[j].name, ⟨#[65, 103, 101]⟩, ⟨#[97, 103, 101]⟩, ⟨#[]⟩] 4 _ _ _ _ s4 (by omega) rfl (by omega) (by omega) (by simp) (by simp)).mono ?_
            rintro e w6 ⟨s, hs, rfl, k6, s6⟩
            have hs' : s.size ≤ 1000 := by
              simp only [List.mem_cons, List.mem_nil_iff, or_false] at hs
              rcases hs with rfl | rfl | rfl | rfl
              · exact hxok.out.1
              all_goals decide
            have HL6 := Lib.hid (HL4.out.draw k6 s6 hS1)
            clear HL4 k6 s4 hs hc4 hgl own4
            go_wp2_with fail
            with_reducible refine (range_any S _ 0 5 _ s6 (by omega) (by omega) (by omega) (by omega)).mono ?_
            rintro e w7 ⟨z, ⟨hz0', hz1'⟩, rfl, k7, s7⟩
            have HL7 := Lib.hid (HL6.out.draw k7 s7 hS1)
            have own6 := HL7.out.1
            rw [HN.out] at own6
            have hc : w7.cell? ⟨g, j * 3 + 0, none⟩ = some (.string l[j].name) := by
              rw [own6.cellAt _ (by omega), fm_get 3 Nn.cells l (fun x _ => x.len) j 0 hjl (by omega)]
              rfl
            have hf : w7.frozen? ⟨g, j * 3 + 0, none⟩ = false := own6.frozenAt _
            have HA := Lib.hid (HL7.out.set (j := j) (i := 0) (u := .string s) (x' := ⟨s, l[j].kind, l[j].must⟩) hS1 hw1 HN.out (fun x _ => x.len) hjl (by omega) rfl)
            have hjl2 : j < (l.set j ⟨s, l[j].kind, l[j].must⟩).length := by simp; omega
            have HNS : Hid ((l.set j ⟨s, l[j].kind, l[j].must⟩).length = n) := Lib.hid (by simp; exact HN.out)
            have ownb := HA.out.1
            rw [HNS.out] at ownb
            have hc2 : (w7.setCell ⟨g, j * 3 + 0, none⟩ (.string s)).cell? ⟨g, j * 3 + 1, none⟩ = some (.int .i64 l[j].kind) := by
              rw [ownb.cellAt _ (by omega), fm_get 3 Nn.cells _ (fun x _ => x.len) j 1 hjl2 (by omega)]
              simp [Nn.cells]
            have hf2 : (w7.setCell ⟨g, j * 3 + 0, none⟩ (.string s)).frozen? ⟨g, j * 3 + 1, none⟩ = false := ownb.frozenAt _
            have HS := Lib.hid (HA.out.set (j := j) (i := 1) (u := .int .i64 z) (x' := ⟨s, z, l[j].must⟩) hS1 hw1 HNS.out (fun x _ => x.len) hjl2 (by omega) (by simp [Nn.cells]))
            rw [List.set_set] at HS
            simp only [Nat.add_zero] at hc hf hc2 hf2 HS
            clear own6 ownb HL6 HL7 HA k7 s6 s7
            go_wp2_with fail
            go_ret
            have := HS.out.gen (K' := K + 20) (P := fun l => l.length ≤ 4 ∧ ∀ x ∈ l, x.ok) hS1 (by omega) (fun x _ => x.len) ⟨by simp; have := HN.out; omega, fun x hx => by
              rcases List.mem_or_eq_of_mem_set hx with hx | rfl
              · exact HOK.out x hx
              · exact ⟨hs', by unfold i64B; simp only; omega⟩⟩
            exact this
      --@end
end Go.Proofs.YtfdpfkdfglombaaGreatDoor
/- (*Stream).Schemes: schemas of events, mostly right ones. -/
set_option linter.unusedVariables false
namespace Go.Proofs.YtfdpfkdfglombaaGreatDoor
open Go.RowKit

theorem rowT_grown {w w' : World} {b0 C n : Nat} {t : TypeId} {v : Value} {xs : List Value} {row : Option Nat} (own : w.ownsRow b0 t C v n xs) (hb : w.grownBy w' row) (h : ∀ g, v.ownBlock = some g → row ≠ some g) : w'.ownsRow b0 t C v n xs := by
  refine own.kept hb ?_
  cases hv : v.ownBlock with
  | none => exact .inl rfl
  | some g => exact .inr (fun e => h g hv e.symm)
theorem infoSchema : (Tryz.prog.info? 67).map (fun i => (i.zero, i.size, i.bytes)) = some (some (.agg #[.string ⟨#[]⟩, .slice none 0 0]), 2, 40) := by kernel_rfl
def evL3 : List Value := [.string ⟨#[98, 117, 121]⟩, .string ⟨#[111, 112, 101, 110]⟩, .string ⟨#[118, 105, 115, 105, 116]⟩]
theorem evL3_at {k : Nat} (h : k < 3) : ∃ s : ByteArray, s.size ≤ 1000 ∧ evL3[k]? = some (.string s) := by
  rcases (show k = 0 ∨ k = 1 ∨ k = 2 by omega) with rfl | rfl | rfl
  · exact ⟨_, by decide, rfl⟩
  · exact ⟨_, by decide, rfl⟩
  · exact ⟨_, by decide, rfl⟩
def ndA : Nn := ⟨⟨#[99, 101, 110, 116, 115]⟩, 2, false⟩
def ndB : Nn := ⟨⟨#[105, 116, 101, 109]⟩, 1, false⟩
theorem RAt.tail {α : Type} {w : World} {p off C : Nat} {f : α → List Value} {x : α} {l : List α} (h : RAt w (some ⟨p, off, none⟩) C f (x :: l)) : RAt w (some ⟨p, off + C, none⟩) C f l := by
  intro j hj
  obtain ⟨p', off', e, h2, h3⟩ := h (j + 1) (by simpa using hj)
  injection e with e
  injection e with e1 e2
  subst e1 e2
  refine ⟨p, off + C, rfl, h2, fun i v hv => ?_⟩
  have := h3 i v (by simpa using hv)
  rw [show off + (j + 1) * C + i = off + C + j * C + i by rw [Nat.add_mul]; omega] at this
  exact this
/-- a schema lies apart from the stream -/
structure SmF (wr : World) (g : Nat) (x : Sm) : Prop where
  nm : x.name.size ≤ 1000
  nd : NnL wr x.na x.needs
  cp : x.needs.length ≤ x.nc ∧ x.nc ≤ maxLen
  far : Far x.na x.needs.length g
theorem NnL.kept {w w' : World} {row : Option Nat} {a : Option Addr} {l : List Nn} (h : NnL w a l) (k : w.grownBy w' row) (hg : ∀ g, row = some g → Far a l.length g) : NnL w' a l := ⟨h.row.kept k hg, h.ok, h.len⟩
theorem SmF.kept {w w' : World} {g : Nat} {x : Sm} {row : Option Nat} (h : SmF w g x) (k : w.grownBy w' row) (hg : ∀ g, row = some g → Far x.na x.needs.length g) : SmF w' g x := ⟨h.nm, h.nd.kept k hg, h.cp, h.far⟩
/-- the schemas being made, and the list that they are made from -/
structure SW (w : World) (S : SC) (b0 fb : Nat) (v : Value) (l : List Sm) (K : Nat) (wr : World) : Prop where
  ls : LstR w b0 wr S K 67 2 Sm.cells v l
  el : ∀ x ∈ l, SmF wr S.g x ∧ ∀ g, v.ownBlock = some g → Far x.na x.needs.length g
  fd : OB wr fb evL3 9
  h1 : S.g < fb
  h3 : fb < b0
  h4 : w.heap.size ≤ fb
/-- and one that is not yet in the list, in its box -/
structure SX (w : World) (S : SC) (b0 fb : Nat) (v : Value) (l : List Sm) (q : Nat) (x : Sm) (K : Nat) (wr : World) : Prop where
  base : SW w S b0 fb v l K wr
  ob : OB wr q x.cells 67
  hq : b0 ≤ q
  ho : ∀ g, v.ownBlock = some g → g < q
  ex : SmF wr S.g x ∧ ∀ g, v.ownBlock = some g → Far x.na x.needs.length g
  eq : Far x.na x.needs.length q
  el : ∀ y ∈ l, Far y.na y.needs.length q
section
variable {w wr w' : World} {S : SC} {b0 fb q K K' : Nat} {v v' : Value} {l : List Sm} {x x' : Sm}
theorem SW.strm (h : SW w S b0 fb v l K wr) : Strm wr S K := h.ls.2.1
theorem SW.lt (h : SW w S b0 fb v l K wr) : S.g < b0 := by have := h.h1; have := h.h3; omega
theorem SW.draw (h : SW w S b0 fb v l K wr) (k : wr.grownBy w' (some S.g)) (s : Strm w' S K') : SW w S b0 fb v l K' w' :=
  ⟨h.ls.draw k s h.lt, fun x hx => ⟨(h.el x hx).1.kept k (fun g e => by obtain rfl := Option.some.inj e; exact (h.el x hx).1.far), (h.el x hx).2⟩, h.fd.grown k (fun e => by have := Option.some.inj e; have := h.h1; omega), h.h1, h.h3, h.h4⟩
theorem SW.mono (h : SW w S b0 fb v l K wr) (hK : K ≤ K') : SW w S b0 fb v l K' wr := h.draw (grownT_same _ _) (strm_mono h.strm hK)
theorem SW.alloc (h : SW w S b0 fb v l K wr) (o : Obj) : SW w S b0 fb v l K (wr.alloc o) := h.draw (World.grownBy_alloc _ _ _) (strm_alloc h.strm _)
theorem SX.draw (h : SX w S b0 fb v l q x K wr) (k : wr.grownBy w' (some S.g)) (s : Strm w' S K') : SX w S b0 fb v l q x K' w' :=
  ⟨h.base.draw k s, h.ob.grown k (fun e => by have := Option.some.inj e; have := h.base.lt; have := h.hq; omega), h.hq, h.ho, ⟨h.ex.1.kept k (fun g e => by obtain rfl := Option.some.inj e; exact h.ex.1.far), h.ex.2⟩, h.eq, h.el⟩
theorem SX.mono (h : SX w S b0 fb v l q x K wr) (hK : K ≤ K') : SX w S b0 fb v l q x K' wr := h.draw (grownT_same _ _) (strm_mono h.base.strm hK)
theorem SX.alloc (h : SX w S b0 fb v l q x K wr) (o : Obj) : SX w S b0 fb v l q x K (wr.alloc o) := h.draw (World.grownBy_alloc _ _ _) (strm_alloc h.base.strm _)
theorem SX.app {H : Nat} (h : SX w S b0 fb v l q x K wr) (own' : w'.ownsRow b0 67 2 v' (l.length + 1) (l.flatMap Sm.cells ++ x.cells)) (k : wr.grownBy w' v.ownBlock) (hH : wr.heap.size = H) (hat : v'.ownBlock = v.ownBlock ∨ v'.ownBlock = some H) : SW w S b0 fb v' (l ++ [x]) K w' := by
  obtain ⟨⟨⟨own, s0, g, hb0⟩, el, fd, h1, h3, h4⟩, ob, hq, ho, ex, eq, elq⟩ := h
  have hr := fun q hq => (own.lt q hq).1
  refine ⟨⟨by simpa using own', strm_own s0 k (fun q e => by have := hr q e; omega), ?_, by have := k.size; omega⟩, fun y hy => ?_, fd.grown k (fun e => by have := hr _ e; omega), h1, h3, h4⟩
  · exact ⟨k.os.trans g.os, k.tape.trans g.tape, k.output.trans g.output, Nat.le_trans g.size k.size, fun i hi hne => (k.block i (Nat.lt_of_lt_of_le hi g.size) (fun e => by have := hr i e.symm; omega)).trans (g.block i hi hne)⟩
  · have hy' : SmF wr S.g y ∧ ∀ g, v.ownBlock = some g → Far y.na y.needs.length g := by
      rcases List.mem_append.1 hy with hy | hy
      · exact el y hy
      · obtain rfl := List.mem_singleton.1 hy
        exact ex
    obtain ⟨f1, f2⟩ := hy'
    refine ⟨f1.kept k f2, fun g e => ?_⟩
    rcases hat with e2 | e2
    · exact f2 g (e2.symm.trans e)
    · rw [e2] at e
      obtain rfl := Option.some.inj e
      exact f1.nd.row.newFar (by omega)
/-- the box is written: another list of fields that lies where the old one lay -/
theorem SX.put (h : SX w S b0 fb v l q x K wr) (hn : x'.name = x.name) (u : Value) (hu : x'.cells = x.cells.set 1 u) (hx : SmF wr S.g x') (hf : ∀ g, Far x.na x.needs.length g → Far x'.na x'.needs.length g) : SX w S b0 fb v l q x' K (wr.setCell ⟨q, 1, none⟩ u) := by
  obtain ⟨⟨⟨own, s0, g, hb0⟩, el, fd, h1, h3, h4⟩, ob, hq, ho, ex, eq, elq⟩ := h
  have k : wr.grownBy (wr.setCell ⟨q, 1, none⟩ u) (some q) := grown_set (grownT_same wr (some q)) (p := ⟨q, 1, none⟩) (.inl rfl) u
  refine ⟨⟨⟨rowT_grown own k (fun b hb e => by have := ho b hb; have := Option.some.inj e; omega), strm_set s0 (by show S.g < q; omega) u, grown_set g (.inr (by show w.heap.size ≤ q; omega)) u, by simpa [World.setCell] using hb0⟩, fun y hy => ⟨(el y hy).1.kept k (fun g e => by obtain rfl := Option.some.inj e; exact elq y hy), (el y hy).2⟩, fd.grown k (fun e => by have := Option.some.inj e; omega), h1, h3, h4⟩, ob.put 1 u hu, hq, ho, ⟨hx.kept k (fun g e => by obtain rfl := Option.some.inj e; exact hf _ eq), fun g e => hf g (ex.2 g e)⟩, hf q eq, elq⟩
end
/-- what the maker of schemas leaves -/
def GenM (S : SC) (K : Nat) (w : World) (e : Ending) (w' : World) : Prop :=
  ∃ a c l, l.length ≤ 3 ∧ e = .returned (.slice a l.length c) ∧ RAt w' a 2 Sm.cells l ∧ (∀ x ∈ l, SmF w' S.g x) ∧ l.length ≤ c ∧ c ≤ maxLen ∧ (∀ p off, a = some ⟨p, off, none⟩ → p ≠ S.g) ∧ w.grownBy w' (some S.g) ∧ Strm w' S K
theorem SW.gen {w wr : World} {S : SC} {b0 fb K K' : Nat} {v : Value} {l : List Sm} (h : SW w S b0 fb v l K wr) (hK : K ≤ K') (hl : l.length ≤ 3) : GenM S K' w (.returned v) wr := by
  have hlt := h.lt
  obtain ⟨⟨own, s, g, hb⟩, el, fd, h1, h3, h4⟩ := h
  obtain ⟨a, c, rfl, hI, hc1, hc2⟩ := RAt.of_own own (fun x _ => x.len)
  refine ⟨a, c, l, hl, rfl, hI, fun x hx => (el x hx).1, hc1, hc2, fun p off ha => ?_, g, strm_mono s hK⟩
  subst ha
  have := (own.lt p (by simp [Value.ownBlock])).1
  omega
theorem GenM.sml {w : World} {a : Option Addr} {l : List Sm} {g : Nat} (h : RAt w a 2 Sm.cells l) (hx : ∀ x ∈ l, SmF w g x) (hl : l.length ≤ 3) : SmL w a l := ⟨h, fun x h => ⟨(hx x h).nm, (hx x h).nd, (hx x h).cp⟩, by omega⟩
/-- what the region that cuts the fields keeps -/
structure JSm (w : World) (S : SC) (b0 fb : Nat) (v : Value) (l : List Sm) (q : Nat) (x : Sm) (hb : Nat) (K0 : Nat) (b : Msk) (u : Nat → Value) (wr : World) : Prop where
  base : SX w S b0 fb v l q x (K0 + (b 3).toNat) wr
  p1 : b 1 = true → u 23 = .slice (some ⟨hb, 0, none⟩) 2 2
  p3 : b 3 = true → ∃ y : Int, (y = 0 ∨ y = 1) ∧ u 25 = .int .i64 y

/-! ### turned about -/
/-- what slices.Reverse leaves -/
def RevO (g b0 n c : Nat) (l : List Sm) (w : World) (e : Ending) (w' : World) : Prop :=
  e = .returned (.tuple #[]) ∧ ∃ l' : List Sm, l'.length = n ∧ (∀ x ∈ l', x ∈ l) ∧ w'.ownsRow b0 67 2 (.slice (some ⟨g, 0, none⟩) n c) n (l'.flatMap Sm.cells) ∧ w.grownBy w' (some g)
/-- what the region that exchanges two keeps -/
structure JR (b0 g n c : Nat) (l : List Sm) (x y : Sm) (b : Msk) (u : Nat → Value) (wr : World) : Prop where
  own : wr.ownsRow b0 67 2 (.slice (some ⟨g, 0, none⟩) n c) n (l.flatMap Sm.cells)
  p7 : b 7 = true → u 21 = .agg y.cells.toArray
  p11 : b 11 = true → u 25 = .agg x.cells.toArray
  eq : u 21 = u 21

set_option maxRecDepth 100000 in
set_option maxHeartbeats 16000000 in
theorem reverseSm_any (g b0 n c : Nat) (l : List Sm) (w : World) (hn : l.length = n) (hn1 : n ≤ 1000) (hc : n ≤ c) (hown : w.ownsRow b0 67 2 (.slice (some ⟨g, 0, none⟩) n c) n (l.flatMap Sm.cells)) :
    Calls Tryz.prog 33 #[.slice (some ⟨g, 0, none⟩) n c] w (RevO g b0 n c l w) := by
  have HN := Lib.hid hn
  have HO := Lib.hid hown
  clear hn hown
  have hw1 : wrap64 ((n : Int) - 1) = (n : Int) - 1 := IntWalk.wrap64_in _ ⟨by omega, by omega⟩
  go_enter Tryz.func33, Tryz.ntmps33
  go_wp2_with fail
  go_loopw [2, 3] (fun u v wr => ∃ (i j : Int) (l' : List Sm), u = .int .i64 i ∧ v = .int .i64 j ∧ 0 ≤ i ∧ i ≤ n ∧ -2 ≤ j ∧ j < n ∧ l'.length = n ∧ (∀ x ∈ l', x ∈ l) ∧ wr.ownsRow b0 67 2 (.slice (some ⟨g, 0, none⟩) n c) n (l'.flatMap Sm.cells) ∧ w.grownBy wr (some g)) (fun u v _ => ((intOf v) - (intOf u)).toNat)
  case atStart => exact ⟨0, (n : Int) - 1, l, rfl, by first | rfl | go_num, by omega, by omega, by omega, by omega, HN.out, fun x h => h, HO.out, grownT_same _ _⟩
  case round =>
    obtain ⟨i, j, l', rfl, rfl, hi0, hin, hj0, hjn, hl', hmem, hown, hgr⟩ := hrel
    by_cases hlt : i < j
    · obtain ⟨i, rfl⟩ := Int.eq_ofNat_of_zero_le hi0
      obtain ⟨j, rfl⟩ := Int.eq_ofNat_of_zero_le (show 0 ≤ j by omega)
      have hi' : i < n := by omega
      have hj' : j < n := by omega
      have HOW := Lib.hid hown
      have HGR := Lib.hid hgr
      have HME := Lib.hid hmem
      have HLN := Lib.hid hl'
      have hil : i < l'.length := by omega
      have hjl : j < l'.length := by omega
      obtain ⟨x, hx⟩ : ∃ z, l'[i] = z := ⟨_, rfl⟩
      obtain ⟨y, hy⟩ : ∃ z, l'[j] = z := ⟨_, rfl⟩
      have HX := Lib.hid hx
      have HY := Lib.hid hy
      clear hown hgr hmem hl' hx hy
      go_upto_region 3 with (fail)
      refine wp_region_any (by kernel_rfl) ?_
      change wpAny _ _ _ _ _ _ _ (World.drew _)
      have HOd : Hid (wr.drew.ownsRow b0 67 2 (.slice (some ⟨g, 0, none⟩) n c) n (l'.flatMap Sm.cells)) := Lib.hid HOW.out
      have HGd := Lib.hid (grown_drew HGR.out)
      clear HOW HGR
      generalize wr.drew = wd at *
      refine wpAny_take (i := 0) (oi := ⟨some 14, _, _, _, _, _⟩) (v := .slice (some ⟨g, 0, none⟩) n c) rfl (by kernel_rfl) (by kernel_rfl) (by kernel_rfl) (fun _ _ _ h => h) (Or.inl ⟨by rfl, fun w => by go_simp⟩) ?_
      refine wpAny_take (i := 1) (oi := ⟨some 15, _, _, _, _, _⟩) (v := .int .i64 i) rfl (by kernel_rfl) (by kernel_rfl) (by kernel_rfl) (fun _ _ _ h => h) (Or.inl ⟨by rfl, fun w => by go_simp⟩) ?_
      refine wpAny_take (i := 2) (oi := ⟨some 16, _, _, _, _, _⟩) (v := .slice (some ⟨g, 0, none⟩) n c) rfl (by kernel_rfl) (by kernel_rfl) (by kernel_rfl) (fun _ _ _ h => h) (Or.inl ⟨by rfl, fun w => by go_simp⟩) ?_
      refine wpAny_take (i := 3) (oi := ⟨some 17, _, _, _, _, _⟩) (v := .int .i64 j) rfl (by kernel_rfl) (by kernel_rfl) (by kernel_rfl) (fun _ _ _ h => h) (Or.inl ⟨by rfl, fun w => by go_simp⟩) ?_
      refine wpAny_take (i := 4) (oi := ⟨some 18, _, _, _, _, _⟩) (v := .slice (some ⟨g, 0, none⟩) n c) rfl (by kernel_rfl) (by kernel_rfl) (by kernel_rfl) (fun _ _ _ h => h) (Or.inl ⟨by rfl, fun w => by go_simp⟩) ?_
      refine wpAny_take (i := 5) (oi := ⟨some 19, _, _, _, _, _⟩) (v := .int .i64 j) rfl (by kernel_rfl) (by kernel_rfl) (by kernel_rfl) (fun _ _ _ h => h) (Or.inl ⟨by rfl, fun w => by go_simp⟩) ?_
      refine wpAny_take (i := 6) (oi := ⟨some 20, _, _, _, _, _⟩) (v := .pointer (some ⟨g, j * 2, none⟩)) rfl (by kernel_rfl) (by kernel_rfl) (by kernel_rfl) (fun _ _ _ h => h) (Or.inl ⟨by rfl, fun w => by go_simp⟩) ?_
      refine wpAny_take (i := 8) (oi := ⟨some 22, _, _, _, _, _⟩) (v := .slice (some ⟨g, 0, none⟩) n c) rfl (by kernel_rfl) (by kernel_rfl) (by kernel_rfl) (fun _ _ _ h => h) (Or.inl ⟨by rfl, fun w => by go_simp⟩) ?_
      refine wpAny_take (i := 9) (oi := ⟨some 23, _, _, _, _, _⟩) (v := .int .i64 i) rfl (by kernel_rfl) (by kernel_rfl) (by kernel_rfl) (fun _ _ _ h => h) (Or.inl ⟨by rfl, fun w => by go_simp⟩) ?_
      refine wpAny_take (i := 10) (oi := ⟨some 24, _, _, _, _, _⟩) (v := .pointer (some ⟨g, i * 2, none⟩)) rfl (by kernel_rfl) (by kernel_rfl) (by kernel_rfl) (fun _ _ _ h => h) (Or.inl ⟨by rfl, fun w => by go_simp⟩) ?_
      refine wpAny_mask (n := 4) (m := 6) #[true, true, true, true, true, true, true, false, true, true, true, false, false, false, false, false] [7, 11] (fun _ => []) [21, 25] (fun d => if d = 21 then u21 else u25) (fun b u wx => JR b0 g n c l' x y b u wx ∧ wx = wd) rfl (by decide) (by kernel_rfl) (by kernel_rfl) ?stp ?hsp ?hendp
      case stp => exact ⟨⟨HOd.out, fun e => (by cases e), fun e => (by cases e), rfl⟩, rfl⟩
      case hsp =>
        intro i0 hi0 b u wx hbi hD hJ
        obtain ⟨hJ, rfl⟩ := hJ
        simp only [List.mem_cons, List.mem_nil_iff, or_false] at hi0
        have HJ := Lib.hid hJ
        have hgl : g < wx.heap.size := (hJ.own.lt g (by simp [Value.ownBlock])).2
        rcases hi0 with rfl | rfl
        · refine wpOp_calm (o := ⟨some 21, ?ap1, ?ap2, ?ap3, ?ap4, ?ap5⟩) ?api ?apg ?_
          case api => exact rfl
          case apg => exact rfl
          intro K' Q' hK'
          have HK := Lib.hid hK'
          clear hK'
          have y0 : wx.cell? ⟨g, j * 2, none⟩ = some (.string y.name) := by
            have h := hJ.own.cellAt (j * 2 + 0) (by omega)
            rw [fm_get 2 Sm.cells l' (fun x _ => x.len) j 0 hjl (by omega), HY.out] at h
            exact h
          have y1 : wx.cell? ⟨g, j * 2 + 1, none⟩ = some (.slice y.na y.needs.length y.nc) := by
            have h := hJ.own.cellAt (j * 2 + 1) (by omega)
            rw [fm_get 2 Sm.cells l' (fun x _ => x.len) j 1 hjl (by omega), HY.out] at h
            exact h
          clear hJ
          simp only [setAll, List.foldl]
          go_simp
          exact HK.out _ _ ⟨upd u 21 (.agg y.cells.toArray), by kernel_rfl, ⟨HJ.out.own, fun _ => rfl, fun e => HJ.out.p11 e, rfl⟩, rfl⟩
        · refine wpOp_calm (o := ⟨some 25, ?cp1, ?cp2, ?cp3, ?cp4, ?cp5⟩) ?cpi ?cpg ?_
          case cpi => exact rfl
          case cpg => exact rfl
          intro K' Q' hK'
          have HK := Lib.hid hK'
          clear hK'
          have y0 : wx.cell? ⟨g, i * 2, none⟩ = some (.string x.name) := by
            have h := hJ.own.cellAt (i * 2 + 0) (by omega)
            rw [fm_get 2 Sm.cells l' (fun x _ => x.len) i 0 hil (by omega), HX.out] at h
            exact h
          have y1 : wx.cell? ⟨g, i * 2 + 1, none⟩ = some (.slice x.na x.needs.length x.nc) := by
            have h := hJ.own.cellAt (i * 2 + 1) (by omega)
            rw [fm_get 2 Sm.cells l' (fun x _ => x.len) i 1 hil (by omega), HX.out] at h
            exact h
          clear hJ
          simp only [setAll, List.foldl]
          go_simp
          exact HK.out _ _ ⟨upd u 25 (.agg x.cells.toArray), by kernel_rfl, ⟨HJ.out.own, fun e => HJ.out.p7 e, fun _ => rfl, rfl⟩, rfl⟩
      case hendp =>
        intro b u wx hb hJ
        obtain ⟨hJ, rfl⟩ := hJ
        have h7 := hJ.p7 (hb 7 (by simp))
        have h11 := hJ.p11 (hb 11 (by simp))
        have HOW := Lib.hid hJ.own
        simp only [setAll, List.foldl, h7, h11]
        clear h7 h11 hb hJ HOd
        refine wpAny_take (i := 12) (oi := ⟨some 26, _, _, _, _, _⟩) (v := .pointer (some ⟨g, i * 2, none⟩)) rfl (by kernel_rfl) (by kernel_rfl) (by kernel_rfl) (fun _ _ _ h => h) (Or.inl ⟨by rfl, fun w => by go_simp⟩) ?_
        have hth : wx.there g (i * 2) y.cells.length := own_thereC HOW.out (i * 2) 2 (by omega)
        have hone : y.cells.toArray.all (·.oneCell') = true := by simp [Sm.cells, Value.oneCell']
        refine wpAny_store_last (i := 13) (o := ⟨none, _, _, _, _, _⟩) 67 (.tmp 26) (.tmp 21) (by kernel_rfl) rfl rfl rfl g (i * 2) y.cells (by kernel_rfl) (by kernel_rfl) hth (by kernel_rfl) hone ?_
        clear hth hone
        obtain ⟨o1, g1⟩ := own_setsC y.cells (i * 2) HOW.out
        rw [fm_setLC Sm.cells 2 l' i y hil (fun x _ => x.len) y.len] at o1
        have HO1 := Lib.hid o1
        have HG1 := Lib.hid (grown_trans HGd.out g1)
        clear o1 g1 HOW HGd
        generalize wx.setCells g (i * 2) y.cells = wk at *
        refine wpAny_take (i := 14) (oi := ⟨some 27, _, _, _, _, _⟩) (v := .pointer (some ⟨g, j * 2, none⟩)) rfl (by kernel_rfl) (by kernel_rfl) (by kernel_rfl) (fun _ _ _ h => h) (Or.inl ⟨by rfl, fun w => by go_simp⟩) ?_
        have hth : wk.there g (j * 2) x.cells.length := own_thereC HO1.out (j * 2) 2 (by omega)
        have hone : x.cells.toArray.all (·.oneCell') = true := by simp [Sm.cells, Value.oneCell']
        refine wpAny_store_last (i := 15) (o := ⟨none, _, _, _, _, _⟩) 67 (.tmp 27) (.tmp 25) (by kernel_rfl) rfl rfl rfl g (j * 2) x.cells (by kernel_rfl) (by kernel_rfl) hth (by kernel_rfl) hone ?_
        clear hth hone
        obtain ⟨o1, g1⟩ := own_setsC x.cells (j * 2) HO1.out
        rw [fm_setLC Sm.cells 2 (l'.set i y) j x (by simpa using hjl) (fun x _ => x.len) x.len] at o1
        have HO2 := Lib.hid o1
        have HG2 := Lib.hid (grown_trans HG1.out g1)
        clear o1 g1 HO1 HG1
        generalize wk.setCells g (j * 2) x.cells = wk2 at *
        refine wpAny_done (by kernel_rfl) ?_ _
        go_wp2_with fail
        go_roundw
        case rel => exact ⟨(i : Int) + 1, (j : Int) - 1, (l'.set i y).set j x, by go_num, by go_num, by omega, by omega, by omega, by omega, by simp [HLN.out], fun z hz => (by
          rcases List.mem_or_eq_of_mem_set hz with hz | rfl
          · rcases List.mem_or_eq_of_mem_set hz with hz | rfl
            · exact HME.out z hz
            · exact HME.out _ (HY.out ▸ List.getElem_mem hjl)
          · exact HME.out _ (HX.out ▸ List.getElem_mem hil)), HO2.out, HG2.out⟩
        case measure => simp [intOf]; omega
    · have HOW := Lib.hid hown
      have HGR := Lib.hid hgr
      have HME := Lib.hid hmem
      clear hown hgr hmem
      go_wp2_with fail
      go_end0
      exact ⟨rfl, l', hl', HME.out, HOW.out, HGR.out⟩

set_option maxHeartbeats 4000000 in
theorem reverseSm_nil (w : World) :
    Calls Tryz.prog 33 #[.slice none 0 0] w fun e w' => e = .returned (.tuple #[]) ∧ w = w' := by
  go_enter Tryz.func33, Tryz.ntmps33
  go_wp2_with fail
  go_loopw [2, 3] (fun u v wr => u = .int .i64 0 ∧ v = .int .i64 (-1) ∧ w = wr) (fun u v _ => 0)
  case atStart => exact ⟨rfl, by first | rfl | go_num, rfl⟩
  case round =>
    obtain ⟨rfl, rfl, rfl⟩ := hrel
    go_wp2_with fail
    go_end0
    exact ⟨rfl, rfl⟩

theorem SW.rev {w wr w' : World} {S : SC} {b0 fb K n c g : Nat} {l l' : List Sm} (h : SW w S b0 fb (.slice (some ⟨g, 0, none⟩) n c) l K wr) (hn : l'.length = n) (hm : ∀ x ∈ l', x ∈ l) (own' : w'.ownsRow b0 67 2 (.slice (some ⟨g, 0, none⟩) n c) n (l'.flatMap Sm.cells)) (k : wr.grownBy w' (some g)) : SW w S b0 fb (.slice (some ⟨g, 0, none⟩) n c) l' K w' := by
  obtain ⟨⟨own, s0, gr, hb0⟩, el, fd, h1, h3, h4⟩ := h
  have hr := (own.lt g (by simp [Value.ownBlock])).1
  refine ⟨⟨by rw [hn]; exact own', strm_own s0 k (fun q e => by have := Option.some.inj e; omega), ?_, by have := k.size; omega⟩, fun y hy => ?_, fd.grown k (fun e => by have := Option.some.inj e; omega), h1, h3, h4⟩
  · exact ⟨k.os.trans gr.os, k.tape.trans gr.tape, k.output.trans gr.output, Nat.le_trans gr.size k.size, fun i hi hne => (k.block i (Nat.lt_of_lt_of_le hi gr.size) (fun e => by have := Option.some.inj e; omega)).trans (gr.block i hi hne)⟩
  · obtain ⟨f1, f2⟩ := el y (hm y hy)
    exact ⟨f1.kept k (fun g' e => by obtain rfl := Option.some.inj e; exact f2 g (by simp [Value.ownBlock])), f2⟩

set_option maxRecDepth 100000 in
set_option maxHeartbeats 16000000 in
theorem Schemes_any (S : SC) (K : Nat) (w : World) (s0 : Strm w S K) (hK : K ≤ 100000) :
    Calls Tryz.prog 8 #[S.p] w (GenM S (K + 20) w) := by
  obtain ⟨i0, hi, hz0, hz1, hz2⟩ := info_parts infoSchema
  have hS := strm_lt s0
  have W0 : Hid (SW w S (w.heap.size + 1) w.heap.size (.slice none 0 0) [] K (w.alloc (.cells #[.string ⟨#[98, 117, 121]⟩, .string ⟨#[111, 112, 101, 110]⟩, .string ⟨#[118, 105, 115, 105, 116]⟩] 9))) := Lib.hid
    ⟨⟨World.ownsRow_nil _ _ _ _, strm_alloc s0 _, grown_alloc (grownT_same _ _) _, by rw [World.size_alloc]; omega⟩, by simp, OB.new w evL3 9, hS, by omega, Nat.le_refl _⟩
  clear s0
  go_enter Tryz.func8, Tryz.ntmps8
  go_wp2_with fail
  with_reducible refine (condEvents_any _).mono ?_
  rintro e w1 ⟨rfl, rfl⟩
  generalize w.alloc (.cells #[.string ⟨#[98, 117, 121]⟩, .string ⟨#[111, 112, 101, 110]⟩, .string ⟨#[118, 105, 115, 105, 116]⟩] 9) = w1 at *
  obtain ⟨fb, hfb⟩ : ∃ z, w.heap.size = z := ⟨_, rfl⟩
  rw [hfb] at W0 ⊢
  obtain ⟨b0, hb0⟩ : ∃ z, fb + 1 = z := ⟨_, rfl⟩
  rw [hb0] at W0
  have hS1 : S.g < b0 := by omega
  clear hfb hb0 hS
  go_wp2_with fail
  go_loopw [3, 5, 9] (fun v _ i wr => ∃ (k : Nat) (l : List Sm), k ≤ 3 ∧ i = .int .i64 k ∧ l.length ≤ k ∧ SW w S b0 fb v l (K + 3 * k) wr) (fun _ _ i _ => 3 - (intOf i).toNat)
  case atStart => exact ⟨0, [], Nat.zero_le _, rfl, Nat.le_refl _, W0.out⟩
  case round =>
    obtain ⟨k, l, hk, rfl, hl, hW⟩ := hrel
    have HW := Lib.hid hW
    clear hW W0
    by_cases hlt : k < 3
    · --@r1
      obtain ⟨nm, hnm, hnl⟩ := evL3_at hlt
      have cF := HW.out.fd.cell k _ hnl
      have hfl := HW.out.fd.lt
      have s2 := HW.out.strm
      go_wp2_with fail
      with_reducible refine (flip_any S _ _ _ s2 (by omega) (by omega)).mono ?_
      rintro e w3 ⟨b, rfl, k3, s3⟩
      have HW3 := Lib.hid (HW.out.draw k3 s3)
      clear k3 s3 s2 HW cF hfl
      cases b with
      | true =>
        go_wp2_with fail
        go_roundw
        case rel => exact ⟨k + 1, l, by omega, by go_num, by omega, HW3.out.mono (by omega)⟩
        case measure => simp [intOf]; omega
      | false =>
        have HWa := Lib.hid (HW3.out.alloc (.cells #[.string ⟨#[99, 101, 110, 116, 115]⟩, .int .i64 2, .bool false, .string ⟨#[105, 116, 101, 109]⟩, .int .i64 1, .bool false] 61))
        have HNa : Hid (RAt (w3.alloc (.cells #[.string ⟨#[99, 101, 110, 116, 115]⟩, .int .i64 2, .bool false, .string ⟨#[105, 116, 101, 109]⟩, .int .i64 1, .bool false] 61)) (some ⟨w3.heap.size, 0, none⟩) 3 Nn.cells [ndA, ndB]) := Lib.hid (RAt.block (heap_alloc_new w3 (.cells (([ndA, ndB].flatMap Nn.cells).toArray) 61)) (fun x _ => x.len))
        have hza : (w3.alloc (.cells #[.string ⟨#[99, 101, 110, 116, 115]⟩, .int .i64 2, .bool false, .string ⟨#[105, 116, 101, 109]⟩, .int .i64 1, .bool false] 61)).heap.size = w3.heap.size + 1 := World.size_alloc _ _
        obtain ⟨wa, hwa⟩ : ∃ z, w3.alloc (.cells #[.string ⟨#[99, 101, 110, 116, 115]⟩, .int .i64 2, .bool false, .string ⟨#[105, 116, 101, 109]⟩, .int .i64 1, .bool false] 61) = z := ⟨_, rfl⟩
        rw [hwa] at HWa HNa hza
        have hown3 := fun g e => (HW3.out.ls.1.lt g e).2
        have hel3 := fun x hx => (HW3.out.el x hx).1.nd.row.newFar (g := w3.heap.size + 1) (by omega)
        have hb3 := HW3.out.ls.2.2.2
        have hsg3 := strm_lt HW3.out.strm
        obtain ⟨hb, hhb⟩ : ∃ z, w3.heap.size = z := ⟨_, rfl⟩
        rw [hhb] at HNa hza hown3 hb3 hsg3
        have hel3' : ∀ x ∈ l, Far x.na x.needs.length (hb + 1) := fun x hx => by have := hel3 x hx; rw [hhb] at this; exact this
        have HX : Hid (SX w S b0 fb u3 l (hb + 1) ⟨nm, some ⟨hb, 0, none⟩, 2, [ndA, ndB]⟩ (K + 3 * k + 1) (wa.alloc (.cells #[.string nm, .slice (some ⟨hb, 0, none⟩) 2 2] 67))) := Lib.hid (by
          have hob := OB.new wa (Sm.cells ⟨nm, some ⟨hb, 0, none⟩, 2, [ndA, ndB]⟩) 67
          rw [hza] at hob
          have hnn : NnL (wa.alloc (.cells #[.string nm, .slice (some ⟨hb, 0, none⟩) 2 2] 67)) (some ⟨hb, 0, none⟩) [ndA, ndB] := ⟨HNa.out.alloc _, fun x hx => by
            simp only [List.mem_cons, List.mem_nil_iff, or_false] at hx
            rcases hx with rfl | rfl
            · exact ⟨by decide, by unfold i64B ndA; simp only; omega⟩
            · exact ⟨by decide, by unfold i64B ndB; simp only; omega⟩, by decide⟩
          refine ⟨HWa.out.alloc _, hob, by omega, fun g e => by have := hown3 g e; omega, ⟨⟨hnm, hnn, ⟨show 2 ≤ 2 from Nat.le_refl _, by unfold maxLen; simp only; omega⟩, fun _ p off e => by injection e with e; injection e with e1; omega⟩, fun g e _ p off e2 => by have := hown3 g e; injection e2 with e2; injection e2 with e1; omega⟩, fun _ p off e => by injection e with e; injection e with e1; omega, hel3'⟩)
        go_upto_region 7 with (fail)
        try rw [hwa]
        try rw [hza]
        try rw [hhb]
        obtain ⟨q, hq⟩ : ∃ z, hb + 1 = z := ⟨_, rfl⟩
        rw [hq] at HX ⊢
        clear HW3 HWa HNa hwa hza hown3 hel3 hb3 hsg3 hel3' hhb
        generalize wa.alloc (.cells #[.string nm, .slice (some ⟨hb, 0, none⟩) 2 2] 67) = w5 at *
        have s5 := HX.out.base.strm
        obtain ⟨K1, hK1⟩ : ∃ z, K + 3 * k + 2 = z := ⟨_, rfl⟩
        go_wp2_with fail
        with_reducible refine (flip_any S _ _ _ s5 (by omega) (by omega)).mono ?_
        rintro e w6 ⟨b, rfl, k6, s6⟩
        have HX6 : Hid (SX w S b0 fb u3 l q ⟨nm, some ⟨hb, 0, none⟩, 2, [ndA, ndB]⟩ K1 w6) := Lib.hid (by rw [← hK1]; exact HX.out.draw k6 s6)
        clear k6 s6 s5 HX
        go_upto_if 21 with (fail)
        go_cut [] (fun wx => ∃ x : Sm, SX w S b0 fb u3 l q x (K1 + 1) wx)
        case first =>
          --@r3
          cases b with
          | false =>
            go_wp2_with fail
            go_meet
            exact ⟨_, HX6.out.mono (by omega)⟩
          | true =>
            go_upto_region 8 with (fail)
            refine wp_region_any (by kernel_rfl) ?_
            change wpAny _ _ _ _ _ _ _ (World.drew _)
            have HXd : Hid (SX w S b0 fb u3 l q ⟨nm, some ⟨hb, 0, none⟩, 2, [ndA, ndB]⟩ K1 w6.drew) := Lib.hid (HX6.out.draw (grown_drew (grownT_same w6 _)) (show Strm w6.drew S K1 from HX6.out.base.strm))
            clear HX6
            generalize w6.drew = wd at *
            refine wpAny_take (i := 0) (oi := ⟨some 22, _, _, _, _, _⟩) (v := .pointer (some ⟨q, 1, none⟩)) rfl (by kernel_rfl) (by kernel_rfl) (by kernel_rfl) (fun _ _ _ h => h) (Or.inl ⟨by rfl, fun w => by go_simp⟩) ?_
            refine wpAny_take (i := 2) (oi := ⟨some 24, _, _, _, _, _⟩) (v := S.p) rfl (by kernel_rfl) (by kernel_rfl) (by kernel_rfl) (fun _ _ _ h => h) (Or.inl ⟨by rfl, fun w => by go_simp⟩) ?_
            refine wpAny_mask (n := 3) (m := 5) #[true, false, true, false, false, false, false] [1, 3] (fun _ => []) [23, 25] (fun d => if d = 23 then u23 else u25) (JSm w S b0 fb u3 l q ⟨nm, some ⟨hb, 0, none⟩, 2, [ndA, ndB]⟩ hb K1) rfl (by decide) (by kernel_rfl) (by kernel_rfl) ?stp ?hsp ?hendp
            case stp => exact ⟨HXd.out, fun e => (by cases e), fun e => (by cases e)⟩
            case hsp =>
              intro i hi b u wx hbi hD hJ
              simp only [List.mem_cons, List.mem_nil_iff, or_false] at hi
              have HJ := Lib.hid hJ
              rcases hi with rfl | rfl
              · refine wpOp_calm (o := ⟨some 23, ?ap1, ?ap2, ?ap3, ?ap4, ?ap5⟩) ?api ?apg ?_
                case api => exact rfl
                case apg => exact rfl
                intro K' Q' hK'
                have HK := Lib.hid hK'
                clear hK'
                have y1 := hJ.base.ob.cell 1 (.slice (some ⟨hb, 0, none⟩) 2 2) rfl
                have yl := hJ.base.ob.lt
                clear hJ
                simp only [setAll, List.foldl]
                go_simp
                exact HK.out _ _ ⟨upd u 23 (.slice (some ⟨hb, 0, none⟩) 2 2), by kernel_rfl, ⟨HJ.out.base, fun _ => rfl, fun e => HJ.out.p3 e⟩⟩
              · refine wpOp_calm (o := ⟨some 25, ?cp1, ?cp2, ?cp3, ?cp4, ?cp5⟩) ?cpi ?cpg ?_
                case cpi => exact rfl
                case cpg => exact rfl
                intro K' Q' hK'
                have HK := Lib.hid hK'
                clear hK'
                have sx : Strm wx S K1 := by
                  have h := hJ.base.base.strm
                  rw [hbi] at h
                  exact h
                have C := Lib.hid (next_any S K1 2 wx sx (by omega) (by omega))
                clear hJ sx
                simp only [setAll, List.foldl]
                go_simp
                refine C.out.mono ?_
                rintro e w' ⟨y, ⟨hy0, hy1, -⟩, rfl, k', st⟩
                have hy2 := hy1 (by omega)
                exact HK.out _ _ ⟨upd u 25 (.int .i64 y), by kernel_rfl, ⟨HJ.out.base.draw k' st, fun e => HJ.out.p1 e, fun _ => ⟨y, by omega, rfl⟩⟩⟩
            case hendp =>
              intro b u wx hbx hJ
              have h1 := hJ.p1 (hbx 1 (by simp))
              obtain ⟨y, hy, h3⟩ := hJ.p3 (hbx 3 (by simp))
              have HW := Lib.hid ((hJ.base.mono (show K1 + (b 3).toNat ≤ K1 + 1 by cases b 3 <;> simp only [Bool.toNat_true, Bool.toNat_false] <;> omega)))
              simp only [setAll, List.foldl, h1, h3]
              have hc1 := HW.out.ob.cell 1 (.slice (some ⟨hb, 0, none⟩) 2 2) rfl
              have hf1 := HW.out.ob.free 1
              have hql := HW.out.ob.lt
              clear h1 h3 hbx hJ
              rcases hy with rfl | rfl
              · refine wpAny_take (i := 4) (oi := ⟨some 26, _, _, _, _, _⟩) (v := .slice (some ⟨hb, 0, none⟩) 2 2) rfl (by kernel_rfl) (by kernel_rfl) (by kernel_rfl) (fun _ _ _ h => h) (Or.inl ⟨by rfl, fun w => by go_simp⟩) ?_
                refine wpAny_take (i := 5) (oi := ⟨some 27, _, _, _, _, _⟩) (v := .pointer (some ⟨q, 1, none⟩)) rfl (by kernel_rfl) (by kernel_rfl) (by kernel_rfl) (fun _ _ _ h => h) (Or.inl ⟨by rfl, fun w => by go_simp⟩) ?_
                refine wpAny_ready (rs := [6]) (by kernel_rfl) (by simp) ?_
                refine AllReady.cons rfl (fun K9 hK9 => ?_) AllReady.nil
                go_simp
                refine hK9 _ _ ?_
                clear hK9 K9
                have HP := Lib.hid (HW.out.put (x' := ⟨nm, some ⟨hb, 0, none⟩, 2, [ndA, ndB]⟩) rfl (.slice (some ⟨hb, 0, none⟩) 2 2) rfl HW.out.ex.1 (fun g h => h))
                refine wpAny_done (by kernel_rfl) ?_ _
                go_wp2_with fail
                go_meet
                exact ⟨_, HP.out⟩
              · refine wpAny_take (i := 4) (oi := ⟨some 26, _, _, _, _, _⟩) (v := .slice (some ⟨hb, 3, none⟩) 1 1) rfl (by kernel_rfl) (by kernel_rfl) (by kernel_rfl) (fun _ _ _ h => h) (Or.inl ⟨by rfl, fun w => by go_simp⟩) ?_
                refine wpAny_take (i := 5) (oi := ⟨some 27, _, _, _, _, _⟩) (v := .pointer (some ⟨q, 1, none⟩)) rfl (by kernel_rfl) (by kernel_rfl) (by kernel_rfl) (fun _ _ _ h => h) (Or.inl ⟨by rfl, fun w => by go_simp⟩) ?_
                refine wpAny_ready (rs := [6]) (by kernel_rfl) (by simp) ?_
                refine AllReady.cons rfl (fun K9 hK9 => ?_) AllReady.nil
                go_simp
                refine hK9 _ _ ?_
                clear hK9 K9
                have HE := HW.out.ex.1
                have HP := Lib.hid (HW.out.put (x' := ⟨nm, some ⟨hb, 3, none⟩, 1, [ndB]⟩) rfl (.slice (some ⟨hb, 3, none⟩) 1 1) rfl ⟨HE.nm, ⟨HE.nd.row.tail, fun x hx => HE.nd.ok x (by simp only [List.mem_cons, List.mem_nil_iff, or_false] at hx ⊢; exact .inr hx), show 1 ≤ 1000 from by decide⟩, ⟨show 1 ≤ 1 from Nat.le_refl _, by unfold maxLen; simp only; omega⟩, fun _ p off e => by
                  injection e with e
                  injection e with e1
                  subst e1
                  exact HE.far (show 0 < 2 by decide) _ _ rfl⟩ (fun g h _ p off e => by
                  injection e with e
                  injection e with e1
                  subst e1
                  exact h (show 0 < 2 by decide) _ _ rfl))
                refine wpAny_done (by kernel_rfl) ?_ _
                go_wp2_with fail
                go_meet
                exact ⟨_, HP.out⟩
          --@end
        case rest =>
        obtain ⟨⟨xn, xna, xnc, xneeds⟩, hX⟩ := hcut
        have HXc := Lib.hid hX
        have hc0 := hX.ob.cell 0 _ rfl
        have hc1 := hX.ob.cell 1 _ rfl
        have hql := hX.ob.lt
        simp only at hc0 hc1
        obtain ⟨nn, hnn⟩ : ∃ z, xneeds.length = z := ⟨_, rfl⟩
        rw [hnn] at hc1
        have HNN := Lib.hid hnn
        clear hX HX6 hnn
        have HXa := Lib.hid (HXc.out.alloc (.cells #[.string xn, .slice xna nn xnc] 67))
        have hown := HXa.out.base.ls.1
        have hbb := HXa.out.base.ls.2.2.2
        go_wp2_with (at_builtin; refine wpList_append_lies _ rfl _ _ 34 rfl b0 67 i0 _ 2 40 Tryz.underlying34 hi hz0 hz1 hz2 rfl (by decide) _ l.length _ rfl hown ⟨wc.heap.size, 0, none⟩ 1 1 [.string xn, .slice xna nn xnc] rfl rfl ?c1 ?c2 (by omega) ?c3 ?c4 hbb _ rfl ?_)
        case c1 => exact cells_new wc #[.string xn, .slice xna nn xnc] 67
        case c2 => simp [Value.oneCell']
        case c3 => unfold maxLen; omega
        case c4 => omega
        intro g cap w8 own8 hgrow8 hat8 hlt8
        have HR := Lib.hid (HXa.out.app (v' := .slice (some ⟨g, 0, none⟩) (l.length + 1) cap) (by
          show w8.ownsRow b0 67 2 _ (l.length + 1) (l.flatMap Sm.cells ++ [.string xn, .slice xna xneeds.length xnc])
          rw [HNN.out]
          exact own8) hgrow8 rfl (by
          rcases hat8 with h | h
          · exact .inl h.symm
          · exact .inr (by rw [World.size_alloc, h]; rfl)))
        clear own8 hgrow8 hat8 hlt8 HXa HXc hown hbb hc0 hc1
        go_wp2_with fail
        go_roundw
        case rel => exact ⟨k + 1, l ++ [⟨xn, xna, xnc, xneeds⟩], by omega, by go_num, by simp; omega, HR.out.mono (by omega)⟩
        case measure => simp [intOf]; omega
      --@end
    · --@r2
      obtain rfl : k = 3 := by omega
      have s2 := HW.out.strm
      go_wp2_with fail
      with_reducible refine (flip_any S _ _ _ s2 (by omega) (by omega)).mono ?_
      rintro e w3 ⟨b, rfl, k3, s3⟩
      have HW3 := Lib.hid (HW.out.draw k3 s3)
      clear k3 s3 s2 HW
      have hsh : ∃ a c, u3 = .slice a l.length c := by
        obtain ⟨a, c, e, -⟩ := RAt.of_own HW3.out.ls.1 (fun x _ => x.len)
        exact ⟨a, c, e⟩
      cases b with
      | false =>
        go_wp2_with fail
        go_ret
        exact HW3.out.gen (by omega) hl
      | true =>
        rcases HW3.out.ls.1.2 with ⟨rfl, h0⟩ | ⟨g, cap, cur, rfl, hbg, hg, hnc, hcm, hcs, htake⟩
        · go_wp2_with fail
          with_reducible refine (reverseSm_nil _).mono ?_
          rintro e w4 ⟨rfl, rfl⟩
          go_wp2_with fail
          go_ret
          exact HW3.out.gen (by omega) hl
        · have C := Lib.hid (reverseSm_any g b0 l.length cap l w3 rfl (by omega) hnc HW3.out.ls.1)
          clear hg hcs htake
          go_wp2_with fail
          with_reducible refine C.out.mono ?_
          rintro e w4 ⟨rfl, l', hl', hm', own', kg'⟩
          have HR := Lib.hid (HW3.out.rev hl' hm' own' kg')
          clear HW3 C own' kg'
          go_wp2_with fail
          go_ret
          have := HR.out.gen (K' := K + 20) (by omega) (by omega)
          exact this
      --@end
end Go.Proofs.YtfdpfkdfglombaaGreatDoor
