/- segment.checkNode (printed by gen_node.py). -/
import Derived.Test.YtfdpfkdfglombaaGreatDoorSgN
import Derived.Deep.Cut
import Derived.Deep.CutBlock
import Derived.Deep.DeepCutAuto
set_option linter.unusedVariables false
namespace Go.Proofs.YtfdpfkdfglombaaGreatDoor
open Go.RowKit

theorem swithinB (n lo hi : Int) (b : Bool) (hb : decide (lo ≤ n ∧ n ≤ hi) = b) (w : World) : Calls Tryz.prog 79 #[.int .i64 n, .int .i64 lo, .int .i64 hi] w fun e w' => e = .returned (.bool b) ∧ w = w' := by
  by_cases h1 : lo ≤ n
  · by_cases h2 : n ≤ hi
    · obtain rfl : b = true := hb.symm.trans (decide_eq_true ⟨h1, h2⟩)
      clear hb
      go_enter Tryz.func79, Tryz.ntmps79
      go_wp2
      go_ret
      exact ⟨ret_bool (by simp <;> omega), rfl⟩
    · obtain rfl : b = false := hb.symm.trans (decide_eq_false fun h => h2 h.2)
      clear hb
      go_enter Tryz.func79, Tryz.ntmps79
      go_wp2
      go_ret
      exact ⟨ret_bool (by simp <;> omega), rfl⟩
  · obtain rfl : b = false := hb.symm.trans (decide_eq_false fun h => h1 h.1)
    clear hb
    go_enter Tryz.func79, Tryz.ntmps79
    go_wp2
    go_ret
    exact ⟨rfl, rfl⟩
theorem RAt.at3v {w : World} {a : Option Addr} {l : List Vl} (h : RAt w a 3 Vl.cells l) {j : Nat} (hj : j < l.length) :
    ∃ p off, a = some ⟨p, off, none⟩ ∧ p < w.heap.size ∧ w.cell? ⟨p, off + j * 3, none⟩ = some (.int .i64 l[j].kind) ∧ w.cell? ⟨p, off + j * 3 + 1, none⟩ = some (.string l[j].text) ∧ w.cell? ⟨p, off + j * 3 + 2, none⟩ = some (.int .i64 l[j].num) := by
  obtain ⟨p, off, h1, h2, h3⟩ := h j hj
  exact ⟨p, off, h1, h2, h3 0 _ rfl, h3 1 _ rfl, h3 2 _ rfl⟩
set_option maxRecDepth 100000 in
set_option maxHeartbeats 4000000 in
theorem checkNode_no (kind : Int) (a1 a2 a3 a4 a5 a6 a7 a8 : Value) (w : World) (h : kind < 1 ∨ 14 < kind) :
    Calls Tryz.prog 77 #[.agg #[.int .i64 kind, a1, a2, a3, a4, a5, a6, a7, a8]] w (IntO w 4) := by
  have CU := Lib.hid (fun w => useOf_no kind w h)
  clear h
  go_enter Tryz.func77, Tryz.ntmps77
  go_wp2_with fail
  ((with_reducible refine (CU.out _).mono ?_); rintro e w1 ⟨rfl, hb⟩)
  simp only [World.size_alloc] at hb
  have HB := Lib.hid (((Below.refl w.heap.size w).alloc (Nat.le_refl _) _).trans (hb.mono (Nat.le_succ _)))
  have HB2 := Lib.hid hb.size
  clear hb
  go_wp2_with fail
  go_ret
  exact ⟨rfl, HB.out.alloc HB.out.size _⟩
set_option maxRecDepth 100000 in
set_option maxHeartbeats 16000000 in
theorem checkNode_yes (x : Nd) (na : Nat) (w : World) (h1 : 1 ≤ x.kind) (h2 : x.kind ≤ 14) (hok : x.ok) (hna : na ≤ 1000) (hV : RAt w x.va 3 Vl.cells x.vals) (hW : RAt w x.wa 5 Wh.cells x.whs) (hT : Tbs w) :
    Calls Tryz.prog 77 #[.agg #[.int .i64 x.kind, .string x.name, .string x.field, .string x.sign, .slice x.va x.vals.length x.vc, .slice x.wa x.whs.length x.wc, .int .i64 x.within, .int .i64 x.number, .slice x.aa na x.ac]] w (IntO w (ndE x na)) := by
  have HE := Lib.hid (ndE_spell x na h1 h2)
  have HH := Lib.hid (show hdE x na = if frmB x na = false then 3 else if ((uNm x.kind && !nmB x.name) || (uFd x.kind && !nmB x.field)) = true then 5 else if (uSg x.kind && !hasS sgnL x.sign) = true then 4 else 0 from rfl)
  have HTK := Lib.hid (show tkB x.kind = (x.kind == 9 || x.kind == 10) from rfl)
  obtain ⟨o1, o2, o3, o4, ⟨o5, o6, o7⟩, ⟨o8, o9, o10⟩, o11, o12, o13, o14⟩ := hok
  have HVO := Lib.hid o13
  have HWO := Lib.hid o14
  have HV := Lib.hid hV
  have HW := Lib.hid hW
  have HT := Lib.hid hT
  have CU : Hid (∀ w, Calls Tryz.prog 137 #[.int .i64 x.kind] w (UseO w (usC x.kind) true)) := Lib.hid (fun w => useOf_yes x.kind w h1 h2)
  have CF := Lib.hid (fun w => formed_any x na w h1 h2 o10)
  unfold usC at CU CF
  have C1 := Lib.hid (fun w => isName_any x.name w (by unfold maxLen; omega))
  have C2 := Lib.hid (fun w => isName_any x.field w (by unfold maxLen; omega))
  have CS := Lib.hid (fun w => signAt_any x.sign w)
  have HS := Lib.hid (idxS_has sgnL x.sign)
  have CC := Lib.hid (fun w h1 h2 => checkWhere_any x.wa x.whs x.whs.length x.wc w rfl o10 h1 o14 h2)
  obtain ⟨d1, hd1⟩ : ∃ b, decide (0 ≤ x.within ∧ x.within ≤ 4321440) = b := ⟨_, rfl⟩
  obtain ⟨d2, hd2⟩ : ∃ b, decide (loNu x.kind ≤ x.number ∧ x.number ≤ hiNu x.kind) = b := ⟨_, rfl⟩
  rw [hd1, hd2] at HE
  have CW1 := Lib.hid (fun w => swithinB x.within 0 4321440 d1 hd1 w)
  have CW2 := Lib.hid (fun w => swithinB x.number (loNu x.kind) (hiNu x.kind) d2 hd2 w)
  have HLO := Lib.hid (show loNu x.kind = if x.kind = 13 then 0 else -5000000000000000 from rfl)
  have HHI := Lib.hid (show hiNu x.kind = if x.kind = 13 then 4321440 else 5000000000000000 from rfl)
  clear hd1 hd2
  obtain ⟨kind, name, field, sign, va, vc, vals, wa, wc, whs, within, number, aa, ac⟩ := x
  simp only at *
  generalize ndE _ na = R at *
  generalize hdE _ na = H at *
  generalize frmB _ na = fr at *
  generalize nmB name = n1 at *
  generalize nmB field = n2 at *
  generalize hasS sgnL sign = sg at *
  generalize idxS sgnL sign = z at *
  generalize tkB kind = tk at *
  generalize fstE whE whs = ew at *
  generalize loNu kind = lo at *
  generalize hiNu kind = hi at *
  generalize uNm kind = b0 at *
  generalize uFd kind = b1 at *
  generalize uSg kind = b2 at *
  generalize uWh kind = b3 at *
  generalize uWi kind = b4 at *
  generalize uNu kind = b5 at *
  generalize ((loVs kind : Nat) : Int) = l0 at *
  generalize ((hiVs kind : Nat) : Int) = l1 at *
  generalize ((loAs kind : Nat) : Int) = l2 at *
  generalize ((hiAs kind : Nat) : Int) = l3 at *
  obtain ⟨nv, hnv⟩ : ∃ z, vals.length = z := ⟨_, rfl⟩
  obtain ⟨nw, hnw⟩ : ∃ z, whs.length = z := ⟨_, rfl⟩
  rw [hnv] at o5 o7 CF
  rw [hnw] at o8 o10 CF CC
  rw [hnv, hnw]
  have HNV := Lib.hid hnv
  clear hnv hnw hV hW hT o13 o14 o1 o2 o3 o4 o11 o12 h1 h2
  go_enter Tryz.func77, Tryz.ntmps77
  go_wp2_with fail
  ((with_reducible refine (CU.out _).mono ?_); rintro e w1 ⟨rfl, hb⟩)
  simp only [World.size_alloc] at hb
  have HX0 := Lib.hid ((XB.new w [.int .i64 kind, .string name, .string field, .string sign, .slice va nv vc, .slice wa nw wc, .int .i64 within, .int .i64 number, .slice aa na ac] 30).below (hb.mono (Nat.le_of_eq (World.size_alloc _ _))))
  have HB0 := Lib.hid (((Below.refl w.heap.size w).alloc (Nat.le_refl _) (.cells #[.int .i64 kind, .string name, .string field, .string sign, .slice va nv vc, .slice wa nw wc, .int .i64 within, .int .i64 number, .slice aa na ac] 30)).trans (hb.mono (Nat.le_succ _)))
  clear hb
  go_upto_block 0 with (fail)
  have HX := Lib.hid (HX0.out.alloc (.cells #[.bool b0, .bool b1, .bool b2, .bool b3, .bool b4, .bool b5, .int .i64 l0, .int .i64 l1, .int .i64 l2, .int .i64 l3] 157))
  have HU := Lib.hid (XB.new w1 [.bool b0, .bool b1, .bool b2, .bool b3, .bool b4, .bool b5, .int .i64 l0, .int .i64 l1, .int .i64 l2, .int .i64 l3] 157)
  have HB := Lib.hid (HB0.out.alloc HB0.out.size (.cells #[.bool b0, .bool b1, .bool b2, .bool b3, .bool b4, .bool b5, .int .i64 l0, .int .i64 l1, .int .i64 l2, .int .i64 l3] 157))
  clear HX0 HB0
  generalize w1.alloc (.cells _ 157) = w2 at *
  generalize w1.heap.size = q1 at *
  obtain ⟨q0, hq0⟩ : ∃ z, w.heap.size = z := ⟨_, rfl⟩
  rw [hq0] at HX ⊢
  clear hq0
  have HT2 := Lib.hid (HT.out.below HB.out)
  have HV2 := Lib.hid (HV.out.below HB.out)
  have HW2 := Lib.hid (HW.out.below HB.out)
  go_cut [] (fun wx => Below w2.heap.size w2 wx ∧ Hid (H = 0))
  case first =>
    have x0 := HX.out.2 0 _ rfl
    have x1 := HX.out.2 1 _ rfl
    have x2 := HX.out.2 2 _ rfl
    have x3 := HX.out.2 3 _ rfl
    have x4 := HX.out.2 4 _ rfl
    have x5 := HX.out.2 5 _ rfl
    have x6 := HX.out.2 6 _ rfl
    have x7 := HX.out.2 7 _ rfl
    have x8 := HX.out.2 8 _ rfl
    have xl := HX.out.1
    have ul := HU.out.1
    have u0 := HU.out.2 0 _ rfl
    have u1 := HU.out.2 1 _ rfl
    have u2 := HU.out.2 2 _ rfl
    have u3 := HU.out.2 3 _ rfl
    have u4 := HU.out.2 4 _ rfl
    have u5 := HU.out.2 5 _ rfl
    have u6 := HU.out.2 6 _ rfl
    have u7 := HU.out.2 7 _ rfl
    have u8 := HU.out.2 8 _ rfl
    have u9 := HU.out.2 9 _ rfl
    go_wp2_with fail
    ((with_reducible refine (CF.out _).mono ?_); rintro e w3 ⟨rfl, hb3⟩)
    have HX3 := Lib.hid (HX.out.below hb3)
    have HU3 := Lib.hid (HU.out.below hb3)
    have HB3 := Lib.hid hb3
    clear hb3 x0 x1 x2 x3 x4 x5 x6 x7 x8 xl ul u0 u1 u2 u3 u4 u5 u6 u7 u8 u9
    have y1 := HX3.out.2 1 _ rfl
    have y2 := HX3.out.2 2 _ rfl
    have y3 := HX3.out.2 3 _ rfl
    have v0 := HU3.out.2 0 _ rfl
    have v1 := HU3.out.2 1 _ rfl
    have v2 := HU3.out.2 2 _ rfl
    cases fr with
    | false =>
      go_wp2_with fail
      go_ret
      exact ⟨ret_int (by rw [HE.out, HH.out]; rfl), HB.out.trans (HB3.out.mono HB.out.size)⟩
    | true =>
      cases b0 with
      | false =>
        cases b1 with
        | false =>
          cases b2 with
          | false =>
            go_wp2_with fail
            go_meet
            exact ⟨HB3.out, Lib.hid (by rw [HH.out]; rfl)⟩
          | true =>
            go_wp2_with fail
            ((with_reducible refine (CS.out _).mono ?_); rintro e w4 ⟨rfl, hb4⟩)
            have HB4 := Lib.hid (HB3.out.trans (hb4.mono HB3.out.size))
            clear hb4
            cases sg with
            | false =>
              have hz : z < 0 := by have := HS.out; simpa using this
              go_wp2_with fail
              go_ret
              exact ⟨ret_int (by rw [HE.out, HH.out]; rfl), HB.out.trans (HB4.out.mono HB.out.size)⟩
            | true =>
              have hz : ¬ z < 0 := by have := HS.out; simpa using this
              go_wp2_with fail
              go_meet
              exact ⟨HB4.out, Lib.hid (by rw [HH.out]; rfl)⟩
        | true =>
          cases b2 with
          | false =>
            go_wp2_with fail
            with_reducible refine (C2.out _).mono ?_
            rintro e w4 ⟨rfl, rfl⟩
            cases n2 with
            | false =>
              go_wp2_with fail
              go_ret
              exact ⟨ret_int (by rw [HE.out, HH.out]; rfl), HB.out.trans (HB3.out.mono HB.out.size)⟩
            | true =>
              go_wp2_with fail
              go_meet
              exact ⟨HB3.out, Lib.hid (by rw [HH.out]; rfl)⟩
          | true =>
            go_wp2_with fail
            with_reducible refine (C2.out _).mono ?_
            rintro e w4 ⟨rfl, rfl⟩
            cases n2 with
            | false =>
              go_wp2_with fail
              go_ret
              exact ⟨ret_int (by rw [HE.out, HH.out]; rfl), HB.out.trans (HB3.out.mono HB.out.size)⟩
            | true =>
              go_wp2_with fail
              ((with_reducible refine (CS.out _).mono ?_); rintro e w4 ⟨rfl, hb4⟩)
              have HB4 := Lib.hid (HB3.out.trans (hb4.mono HB3.out.size))
              clear hb4
              cases sg with
              | false =>
                have hz : z < 0 := by have := HS.out; simpa using this
                go_wp2_with fail
                go_ret
                exact ⟨ret_int (by rw [HE.out, HH.out]; rfl), HB.out.trans (HB4.out.mono HB.out.size)⟩
              | true =>
                have hz : ¬ z < 0 := by have := HS.out; simpa using this
                go_wp2_with fail
                go_meet
                exact ⟨HB4.out, Lib.hid (by rw [HH.out]; rfl)⟩
      | true =>
        cases b1 with
        | false =>
          cases b2 with
          | false =>
            go_wp2_with fail
            with_reducible refine (C1.out _).mono ?_
            rintro e w4 ⟨rfl, rfl⟩
            cases n1 with
            | false =>
              go_wp2_with fail
              go_ret
              exact ⟨ret_int (by rw [HE.out, HH.out]; rfl), HB.out.trans (HB3.out.mono HB.out.size)⟩
            | true =>
              go_wp2_with fail
              go_meet
              exact ⟨HB3.out, Lib.hid (by rw [HH.out]; rfl)⟩
          | true =>
            go_wp2_with fail
            with_reducible refine (C1.out _).mono ?_
            rintro e w4 ⟨rfl, rfl⟩
            cases n1 with
            | false =>
              go_wp2_with fail
              go_ret
              exact ⟨ret_int (by rw [HE.out, HH.out]; rfl), HB.out.trans (HB3.out.mono HB.out.size)⟩
            | true =>
              go_wp2_with fail
              ((with_reducible refine (CS.out _).mono ?_); rintro e w4 ⟨rfl, hb4⟩)
              have HB4 := Lib.hid (HB3.out.trans (hb4.mono HB3.out.size))
              clear hb4
              cases sg with
              | false =>
                have hz : z < 0 := by have := HS.out; simpa using this
                go_wp2_with fail
                go_ret
                exact ⟨ret_int (by rw [HE.out, HH.out]; rfl), HB.out.trans (HB4.out.mono HB.out.size)⟩
              | true =>
                have hz : ¬ z < 0 := by have := HS.out; simpa using this
                go_wp2_with fail
                go_meet
                exact ⟨HB4.out, Lib.hid (by rw [HH.out]; rfl)⟩
        | true =>
          cases b2 with
          | false =>
            go_wp2_with fail
            with_reducible refine (C1.out _).mono ?_
            rintro e w4 ⟨rfl, rfl⟩
            cases n1 with
            | false =>
              go_wp2_with fail
              go_ret
              exact ⟨ret_int (by rw [HE.out, HH.out]; rfl), HB.out.trans (HB3.out.mono HB.out.size)⟩
            | true =>
              go_wp2_with fail
              with_reducible refine (C2.out _).mono ?_
              rintro e w4 ⟨rfl, rfl⟩
              cases n2 with
              | false =>
                go_wp2_with fail
                go_ret
                exact ⟨ret_int (by rw [HE.out, HH.out]; rfl), HB.out.trans (HB3.out.mono HB.out.size)⟩
              | true =>
                go_wp2_with fail
                go_meet
                exact ⟨HB3.out, Lib.hid (by rw [HH.out]; rfl)⟩
          | true =>
            go_wp2_with fail
            with_reducible refine (C1.out _).mono ?_
            rintro e w4 ⟨rfl, rfl⟩
            cases n1 with
            | false =>
              go_wp2_with fail
              go_ret
              exact ⟨ret_int (by rw [HE.out, HH.out]; rfl), HB.out.trans (HB3.out.mono HB.out.size)⟩
            | true =>
              go_wp2_with fail
              with_reducible refine (C2.out _).mono ?_
              rintro e w4 ⟨rfl, rfl⟩
              cases n2 with
              | false =>
                go_wp2_with fail
                go_ret
                exact ⟨ret_int (by rw [HE.out, HH.out]; rfl), HB.out.trans (HB3.out.mono HB.out.size)⟩
              | true =>
                go_wp2_with fail
                ((with_reducible refine (CS.out _).mono ?_); rintro e w4 ⟨rfl, hb4⟩)
                have HB4 := Lib.hid (HB3.out.trans (hb4.mono HB3.out.size))
                clear hb4
                cases sg with
                | false =>
                  have hz : z < 0 := by have := HS.out; simpa using this
                  go_wp2_with fail
                  go_ret
                  exact ⟨ret_int (by rw [HE.out, HH.out]; rfl), HB.out.trans (HB4.out.mono HB.out.size)⟩
                | true =>
                  have hz : ¬ z < 0 := by have := HS.out; simpa using this
                  go_wp2_with fail
                  go_meet
                  exact ⟨HB4.out, Lib.hid (by rw [HH.out]; rfl)⟩
  case rest =>
  obtain ⟨hbx, H0⟩ := hcut
  have HBX := Lib.hid (HB.out.trans (hbx.mono HB.out.size))
  have HXX := Lib.hid (HX.out.below hbx)
  have HTX := Lib.hid (HT2.out.below hbx)
  have HVX := Lib.hid (HV2.out.below hbx)
  have HWX := Lib.hid (HW2.out.below hbx)
  clear hbx HX HU HT2 HV2 HW2 HB HT HV HW CF C1 C2 CS HS CU HH
  have HE1 : Hid (R = if fstE (vtE tk) vals ≠ 0 then fstE (vtE tk) vals else if ew ≠ 0 then ew else if (!d1 || !d2) = true then 1 else 0) := Lib.hid (by rw [HE.out, H0.out, if_neg (fun h => h rfl)])
  clear HE H0
  have x4 := HXX.out.2 4 _ rfl
  have xl := HXX.out.1
  go_wp2_with fail
  clear x4 xl
  go_loopw [56] (fun i wr => ∃ k : Nat, k ≤ nv ∧ i = .int .i64 k ∧ Below wc.heap.size wc wr ∧ Hid (fstE (vtE tk) vals = fstE (vtE tk) (vals.drop k))) (fun i _ => nv - (intOf i).toNat)
  case atStart => exact ⟨0, Nat.zero_le _, rfl, Below.refl _ _, Lib.hid rfl⟩
  case round =>
    obtain ⟨k, hk, rfl, hBr, HF⟩ := hrel
    have HBr := Lib.hid (HBX.out.trans (hBr.mono HBX.out.size))
    have HXr := Lib.hid (HXX.out.below hBr)
    have HTr := Lib.hid (HTX.out.below hBr)
    have HBr0 := Lib.hid hBr
    by_cases hlt : k < nv
    · have hkl : k < vals.length := by have := HNV.out; omega
      obtain ⟨p, off, rfl, hp, c0, c1, c2⟩ := (HVX.out.below hBr).at3v hkl
      have HD := Lib.hid (fstE_drop (vtE tk) vals k hkl)
      have HO := Lib.hid (HVO.out vals[k] (List.getElem_mem hkl))
      clear hBr
      generalize vals[k] = v at *
      have HVT := Lib.hid (show vtE tk v = if vlE v ≠ 0 then vlE v else if (tk && (v.kind != 1)) = true then 10 else 0 from rfl)
      have C3 := Lib.hid (fun w h => checkValue_any v w HO.out h)
      generalize vtE tk v = r at *
      generalize vlE v = e3 at *
      obtain ⟨vk, vt, vn⟩ := v
      simp only at c0 c1 c2 C3 HVT
      have HTa := Lib.hid (HTr.out.alloc (.cells #[.int .i64 vk, .string vt, .int .i64 vn] 72))
      have HYa := Lib.hid (XB.new wr [.int .i64 vk, .string vt, .int .i64 vn] 72)
      have HXa := Lib.hid (HXr.out.alloc (.cells #[.int .i64 vk, .string vt, .int .i64 vn] 72))
      have HBa := Lib.hid (HBr.out.alloc HBr.out.size (.cells #[.int .i64 vk, .string vt, .int .i64 vn] 72))
      have HBa0 := Lib.hid (HBr0.out.alloc HBr0.out.size (.cells #[.int .i64 vk, .string vt, .int .i64 vn] 72))
      clear HTr HXr HBr HBr0
      go_wp2_with fail
      ((with_reducible refine (C3.out _ HTa.out).mono ?_); rintro e w5 ⟨rfl, hb5⟩)
      have HX5 := Lib.hid (HXa.out.below hb5)
      have HY5 := Lib.hid (HYa.out.below hb5)
      have HB5 := Lib.hid (HBa.out.trans (hb5.mono HBa.out.size))
      have HB50 := Lib.hid (HBa0.out.trans (hb5.mono HBa0.out.size))
      clear hb5 HTa HYa HXa HBa HBa0 c0 c1 c2 hp
      by_cases h3 : e3 = 0
      · subst h3
        have x0 := HX5.out.2 0 _ rfl
        have y0 := HY5.out.2 0 _ rfl
        have xl := HX5.out.1
        have yl := HY5.out.1
        have HE9 := Lib.hid (show ∃ b, (kind == 9) = b from ⟨_, rfl⟩)
        obtain ⟨x9, hx9⟩ := HE9.out
        obtain ⟨x10, hx10⟩ : ∃ b, (kind == 10) = b := ⟨_, rfl⟩
        obtain ⟨xv, hxv⟩ : ∃ b, (vk != 1) = b := ⟨_, rfl⟩
        have HT9 : Hid (tk = (x9 || x10)) := Lib.hid (by rw [HTK.out, hx9, hx10])
        rw [hxv] at HVT
        clear HE9
        have fin0 : x9 = false ∧ x10 = false ∨ xv = false → Hid (fstE (vtE tk) vals = fstE (vtE tk) (vals.drop (k + 1))) := fun h => Lib.hid (by
          rw [HF.out, HD.out, if_pos]
          rw [HVT.out, HT9.out]
          rcases h with ⟨rfl, rfl⟩ | rfl
          · rfl
          · simp)
        have FIN := Lib.hid fin0
        clear fin0
        cases x9 with
        | true =>
          cases xv with
          | true =>
            go_wp2_with fail
            go_ret
            exact ⟨ret_int (by
              have e : r = 10 := by rw [HVT.out, HT9.out]; rfl
              have e2 : fstE (vtE tk) vals = 10 := by rw [HF.out, HD.out, e]; rfl
              rw [HE1.out, e2]; rfl), HB5.out⟩
          | false =>
            go_wp2_with fail
            go_roundw
            case rel => exact ⟨k + 1, by omega, by go_num, HB50.out, FIN.out (by simp)⟩
            case measure => simp [intOf]; omega
        | false =>
          cases x10 with
          | true =>
            cases xv with
            | true =>
              go_wp2_with fail
              go_ret
              exact ⟨ret_int (by
                have e : r = 10 := by rw [HVT.out, HT9.out]; rfl
                have e2 : fstE (vtE tk) vals = 10 := by rw [HF.out, HD.out, e]; rfl
                rw [HE1.out, e2]; rfl), HB5.out⟩
            | false =>
              go_wp2_with fail
              go_roundw
              case rel => exact ⟨k + 1, by omega, by go_num, HB50.out, FIN.out (by simp)⟩
              case measure => simp [intOf]; omega
          | false =>
            go_wp2_with fail
            go_roundw
            case rel => exact ⟨k + 1, by omega, by go_num, HB50.out, FIN.out (by simp)⟩
            case measure => simp [intOf]; omega
      · have h4 : (e3 != 0) = true := by simpa using h3
        have H3 := Lib.hid h3
        clear h3
        go_wp2_with fail
        go_ret
        exact ⟨ret_int (by
          have e : r = e3 := by rw [HVT.out, if_pos H3.out]
          have e2 : fstE (vtE tk) vals = e3 := by rw [HF.out, HD.out, e, if_neg H3.out]
          rw [HE1.out, e2, if_pos H3.out]), HB5.out⟩
    · have HZ : Hid (fstE (vtE tk) vals = 0) := Lib.hid (by rw [HF.out, List.drop_eq_nil_of_le (by have := HNV.out; omega)]; rfl)
      have HWr := Lib.hid (HWX.out.below hBr)
      clear hBr HBr0
      have HE2 : Hid (R = if ew ≠ 0 then ew else if (!d1 || !d2) = true then 1 else 0) := Lib.hid (by rw [HE1.out, HZ.out, if_neg (fun h => h rfl)])
      clear HE1 HZ HF
      have x5 := HXr.out.2 5 _ rfl
      have xl := HXr.out.1
      go_wp2_with fail
      ((with_reducible refine (CC.out _ HWr.out HTr.out).mono ?_); rintro e w5 ⟨rfl, hb5⟩)
      have HX5 := Lib.hid (HXr.out.below hb5)
      have HB5 := Lib.hid (HBr.out.trans (hb5.mono HBr.out.size))
      clear hb5 x5 xl HXr HBr HWr HTr
      by_cases h3 : ew = 0
      · subst h3
        have x0 := HX5.out.2 0 _ rfl
        have x6 := HX5.out.2 6 _ rfl
        have x7 := HX5.out.2 7 _ rfl
        have xl := HX5.out.1
        by_cases h13 : kind = 13
        · subst h13
          obtain rfl : lo = 0 := HLO.out
          obtain rfl : hi = 4321440 := HHI.out
          cases d1 with
          | false =>
            go_wp2_with fail
            with_reducible refine (CW1.out _).mono ?_
            rintro e w6 ⟨rfl, rfl⟩
            go_wp2_with fail
            go_ret
            exact ⟨ret_int (by rw [HE2.out]; rfl), HB5.out⟩
          | true =>
            go_wp2_with fail
            with_reducible refine (CW1.out _).mono ?_
            rintro e w6 ⟨rfl, rfl⟩
            go_wp2_with fail
            with_reducible refine (CW2.out _).mono ?_
            rintro e w6 ⟨rfl, rfl⟩
            cases d2 with
            | false =>
              go_wp2_with fail
              go_ret
              exact ⟨ret_int (by rw [HE2.out]; rfl), HB5.out⟩
            | true =>
              go_wp2_with fail
              go_ret
              exact ⟨ret_int (by rw [HE2.out]; rfl), HB5.out⟩
        · obtain rfl : lo = -5000000000000000 := HLO.out.trans (if_neg h13)
          obtain rfl : hi = 5000000000000000 := HHI.out.trans (if_neg h13)
          have b13 : (kind == 13) = false := by simpa using h13
          clear h13 HLO HHI
          cases d1 with
          | false =>
            go_wp2_with fail
            with_reducible refine (CW1.out _).mono ?_
            rintro e w6 ⟨rfl, rfl⟩
            go_wp2_with fail
            go_ret
            exact ⟨ret_int (by rw [HE2.out]; rfl), HB5.out⟩
          | true =>
            go_wp2_with fail
            with_reducible refine (CW1.out _).mono ?_
            rintro e w6 ⟨rfl, rfl⟩
            go_wp2_with fail
            with_reducible refine (CW2.out _).mono ?_
            rintro e w6 ⟨rfl, rfl⟩
            cases d2 with
            | false =>
              go_wp2_with fail
              go_ret
              exact ⟨ret_int (by rw [HE2.out]; rfl), HB5.out⟩
            | true =>
              go_wp2_with fail
              go_ret
              exact ⟨ret_int (by rw [HE2.out]; rfl), HB5.out⟩
      · have h4 : (ew != 0) = true := by simpa using h3
        have H3 := Lib.hid h3
        clear h3
        go_wp2_with fail
        go_ret
        exact ⟨ret_int (by rw [HE2.out, if_pos H3.out]), HB5.out⟩
end Go.Proofs.YtfdpfkdfglombaaGreatDoor
