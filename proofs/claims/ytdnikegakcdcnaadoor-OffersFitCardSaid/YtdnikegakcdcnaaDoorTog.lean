/- Offers that can be used together: offer.together, handref1.TogetherOf (printed by gen_tog.py). -/
import Derived.Test.YtdnikegakcdcnaaDoorFitSpec
import Derived.Test.YtdnikegakcdcnaaDoorOfPlain
import Derived.Test.YtdnikegakcdcnaaDoorMatch
import Derived.Test.YtdnikegakcdcnaaDoorOfSpec
import Derived.Deep.DeepCutAuto
import Derived.Deep.CutBlock
set_option linter.unusedVariables false
namespace Go.Proofs.YtdnikegakcdcnaaDoor
open Go.RowKit Go.Maps

/-- seen[s], the equation of the run -/
theorem Seen.look {w : World} {b n : Nat} {l : List ByteArray} (h : Seen w b n l) (s : ByteArray) (hs : s.size ≤ maxLen) :
    (Instr.lookup 125 (.map (some b)) (.string s) false).run Tryd.prog w = .ok (.bool (hasS l s)) w := by
  obtain ⟨D, hown, _, hat⟩ := h
  obtain ⟨v, ps, hrun, hv⟩ := hown.lookup key_str Tryd.underlying125 (zero_bool w) (plainElem_bool Tryd.underlying4 false) (WideMaps.keyOf_string_mk Tryd.underlying9 hs)
  obtain ⟨c, rfl, hc⟩ := plainElem_bool_inv Tryd.underlying4 hv
  simp only [Prod.mk.injEq] at hc
  rw [← lit_bool_inj ((hat s).symm.trans hc.1)] at hrun
  exact hrun

set_option maxRecDepth 100000 in
set_option maxHeartbeats 8000000 in
theorem together_any (a : Option Addr) (l : List Of) (n c : Nat) (w : World) (hn : l.length = n) (hn1 : n ≤ 40) (hc : n ≤ c) (hc' : c ≤ maxLen) (hI : RAt w a 12 Of.cells l) (hok : ∀ x ∈ l, x.ok) :
    Calls Tryd.prog 151 #[.slice a n c] w fun e w' => e = .returned (.bool (togB l)) ∧ Below w.heap.size w w' := by
  unfold maxLen at hc'
  have HN := Lib.hid hn
  have HI := Lib.hid hI
  have HOK := Lib.hid hok
  have HS0 := Lib.hid (Seen.made w)
  have HB0 := Lib.hid ((Below.refl w.heap.size w).alloc (Nat.le_refl _) (.map #[] 0))
  have hmm := @run_makeMap Tryd.prog
  clear hn hI hok
  go_enter Tryd.func151, Tryd.ntmps151
  go_wp2_with fail
  go_loopw [5, 9] (fun _ i wr => ∃ k : Nat, k ≤ n ∧ i = .int .i64 k ∧ Below w.heap.size w wr ∧ Seen wr w.heap.size k ((l.take k).map Of.group) ∧ TogInv l k) (fun _ i _ => n - (intOf i).toNat)
  case atStart => exact ⟨0, Nat.zero_le _, rfl, HB0.out, HS0.out, TogInv.zero l⟩
  case round =>
    obtain ⟨k, hk, rfl, hB, hS, hV⟩ := hrel
    have HS := Lib.hid hS
    have HB := Lib.hid hB
    clear hS HS0 HB0
    by_cases hlt : k < n
    · have hkl : k < l.length := by have := HN.out; omega
      obtain ⟨p, off, rfl, hp, c0, c1, c2, c3, c4, c5, c6, c7, c8, c9, c10, c11⟩ := (HI.out.below hB).at12 hkl (v0 := .string l[k].key) (v1 := .int .i64 l[k].kind) (v2 := .int .i64 l[k].a) (v3 := .int .i64 l[k].b) (v4 := .slice l[k].tv l[k].tags.length l[k].tc) (v5 := .int .i64 l[k].least) (v6 := .int .i64 l[k].most) (v7 := .string l[k].group) (v8 := .bool l[k].alone) (v9 := .int .i64 l[k].order) (v10 := .int .i64 l[k].from_) (v11 := .int .i64 l[k].to_) rfl
      have hgs := (HOK.out l[k] (List.getElem_mem hkl)).2.2.2.2.2.2.2.2.2.2.2.2.2.1
      have HV := Lib.hid (hV.step hkl)
      have HE := Lib.hid (show tgS l.length (l.take k) l[k] = ((l[k].alone && decide (1 < l.length)) || (!decide (l[k].group.size = 0) && hasS ((l.take k).map Of.group) l[k].group)) from rfl)
      have HTK := Lib.hid (show (l.take (k + 1)).map Of.group = (l.take k).map Of.group ++ [l[k].group] by rw [List.take_succ_eq_append_getElem hkl, List.map_append]; rfl)
      rw [HN.out] at HE HV
      generalize tgS n (l.take k) l[k] = T at *
      generalize l[k] = x at *
      obtain ⟨key, kd, ia, ib, tv, tc, tags, le, mo, gr, al, od, fr, t2⟩ := x
      simp only at c0 c1 c2 c3 c4 c5 c6 c7 c8 c9 c10 c11 hgs HE HTK
      generalize tags.length = tn at *
      have HBa := Lib.hid (HB.out.alloc HB.out.size (.cells #[.string key, .int .i64 kd, .int .i64 ia, .int .i64 ib, .slice tv tn tc, .int .i64 le, .int .i64 mo, .string gr, .bool al, .int .i64 od, .int .i64 fr, .int .i64 t2] 109))
      have HSa := Lib.hid (HS.out.alloc (.cells #[.string key, .int .i64 kd, .int .i64 ia, .int .i64 ib, .slice tv tn tc, .int .i64 le, .int .i64 mo, .string gr, .bool al, .int .i64 od, .int .i64 fr, .int .i64 t2] 109))
      have X0 := Lib.hid (XB.new wr [.string key, .int .i64 kd, .int .i64 ia, .int .i64 ib, .slice tv tn tc, .int .i64 le, .int .i64 mo, .string gr, .bool al, .int .i64 od, .int .i64 fr, .int .i64 t2] 109)
      simp only [List.toArray] at X0
      clear hV hB HB HS
      go_upto_region 5 with (fail)
      generalize wr.alloc (.cells #[.string key, .int .i64 kd, .int .i64 ia, .int .i64 ib, .slice tv tn tc, .int .i64 le, .int .i64 mo, .string gr, .bool al, .int .i64 od, .int .i64 fr, .int .i64 t2] 109) = w2 at *
      generalize hqb : wr.heap.size = qb at *
      clear c0 c1 c2 c3 c4 c5 c6 c7 c8 c9 c10 c11 hp
      obtain ⟨x0, x1, x2, x3, x4, x5, x6, x7, x8, x9, x10, x11⟩ := X0.out.at12
      have hq := X0.out.1
      have hlk := HSa.out.look gr (by unfold maxLen; omega)
      generalize hss : (l.take k).map Of.group = gs at *
      obtain ⟨hb, hhb⟩ : ∃ b, hasS gs gr = b := ⟨_, rfl⟩
      rw [hhb] at hlk HE
      clear hss hhb
      obtain ⟨ge, hge⟩ : ∃ b, gr.toList.isEmpty = b := ⟨_, rfl⟩
      rw [show decide (gr.size = 0) = ge by rw [← hge, ofIsEmpty]] at HE
      cases al with
      | true =>
        by_cases h1 : 1 < n
        · have h2 : (1 : Int) < (n : Int) := by omega
          have HR := Lib.hid (HV.out.1 (by rw [HE.out]; simp [h1]))
          clear HE HV
          go_wp2_with fail
          go_ret
          exact ⟨ret_bool HR.out.symm, HBa.out⟩
        · have h2 : ¬ (1 : Int) < (n : Int) := by omega
          cases ge with
          | true =>
            have HR := Lib.hid (HV.out.2 (by rw [HE.out]; simp [h1]))
            clear HE HV
            go_wp2_with (at_mapUpdate; refine wpList_update_seen _ rfl _ _ _ rfl _ _ _ rfl HSa.out (by unfold maxLen; omega) _ rfl rfl (by unfold maxLen; omega) ?_)
            intro w3 hS3 hg3
            rw [← HTK.out] at hS3
            have HS3 := Lib.hid hS3
            have HB3 := Lib.hid (HBa.out.grown hg3 (HBa.out.size) (fun q hq => by injection hq with hq; omega))
            clear hS3 hg3
            go_wp2_with fail
            go_roundw
            case rel => exact ⟨k + 1, by omega, by go_num, HB3.out, HS3.out, HR.out⟩
            case measure => simp [intOf]; omega
          | false =>
            cases hb with
            | true =>
              have HR := Lib.hid (HV.out.1 (by rw [HE.out]; simp [h1]))
              clear HE HV
              go_wp2_with fail
              go_ret
              exact ⟨ret_bool HR.out.symm, HBa.out⟩
            | false =>
              have HR := Lib.hid (HV.out.2 (by rw [HE.out]; simp [h1]))
              clear HE HV
              go_wp2_with (at_mapUpdate; refine wpList_update_seen _ rfl _ _ _ rfl _ _ _ rfl HSa.out (by unfold maxLen; omega) _ rfl rfl (by unfold maxLen; omega) ?_)
              intro w3 hS3 hg3
              rw [← HTK.out] at hS3
              have HS3 := Lib.hid hS3
              have HB3 := Lib.hid (HBa.out.grown hg3 (HBa.out.size) (fun q hq => by injection hq with hq; omega))
              clear hS3 hg3
              go_wp2_with fail
              go_roundw
              case rel => exact ⟨k + 1, by omega, by go_num, HB3.out, HS3.out, HR.out⟩
              case measure => simp [intOf]; omega
      | false =>
        cases ge with
        | true =>
          have HR := Lib.hid (HV.out.2 (by rw [HE.out]; simp ))
          clear HE HV
          go_wp2_with (at_mapUpdate; refine wpList_update_seen _ rfl _ _ _ rfl _ _ _ rfl HSa.out (by unfold maxLen; omega) _ rfl rfl (by unfold maxLen; omega) ?_)
          intro w3 hS3 hg3
          rw [← HTK.out] at hS3
          have HS3 := Lib.hid hS3
          have HB3 := Lib.hid (HBa.out.grown hg3 (HBa.out.size) (fun q hq => by injection hq with hq; omega))
          clear hS3 hg3
          go_wp2_with fail
          go_roundw
          case rel => exact ⟨k + 1, by omega, by go_num, HB3.out, HS3.out, HR.out⟩
          case measure => simp [intOf]; omega
        | false =>
          cases hb with
          | true =>
            have HR := Lib.hid (HV.out.1 (by rw [HE.out]; simp ))
            clear HE HV
            go_wp2_with fail
            go_ret
            exact ⟨ret_bool HR.out.symm, HBa.out⟩
          | false =>
            have HR := Lib.hid (HV.out.2 (by rw [HE.out]; simp ))
            clear HE HV
            go_wp2_with (at_mapUpdate; refine wpList_update_seen _ rfl _ _ _ rfl _ _ _ rfl HSa.out (by unfold maxLen; omega) _ rfl rfl (by unfold maxLen; omega) ?_)
            intro w3 hS3 hg3
            rw [← HTK.out] at hS3
            have HS3 := Lib.hid hS3
            have HB3 := Lib.hid (HBa.out.grown hg3 (HBa.out.size) (fun q hq => by injection hq with hq; omega))
            clear hS3 hg3
            go_wp2_with fail
            go_roundw
            case rel => exact ⟨k + 1, by omega, by go_num, HB3.out, HS3.out, HR.out⟩
            case measure => simp [intOf]; omega
    · have HD := Lib.hid (hV.done (by have := HN.out; omega))
      clear hV hB
      go_wp2_with fail
      go_ret
      exact ⟨ret_bool HD.out.symm, HB.out⟩

set_option maxRecDepth 100000 in
set_option maxHeartbeats 16000000 in
theorem TogetherOf_any (a : Option Addr) (l : List Of) (n c : Nat) (w : World) (hn : l.length = n) (hn1 : n ≤ 40) (hc : n ≤ c) (hc' : c ≤ maxLen) (hI : RAt w a 12 Of.cells l) :
    Calls Tryd.prog 78 #[.slice a n c] w fun e w' => e = .returned (.bool (togB l)) ∧ Below w.heap.size w w' := by
  unfold maxLen at hc'
  have HN := Lib.hid hn
  have HI := Lib.hid hI
  clear hn hI
  go_enter Tryd.func78, Tryd.ntmps78
  go_wp2_with fail
  go_loopw [3, 4, 6, 9] (fun _ _ _ i wr => ∃ k : Nat, k ≤ n ∧ i = .int .i64 k ∧ Below w.heap.size w wr ∧ RefInv l k) (fun _ _ _ i _ => n - (intOf i).toNat)
  case atStart => exact ⟨0, Nat.zero_le _, rfl, Below.refl _ _, RefInv.zero l⟩
  case round =>
    obtain ⟨k, hk, rfl, hB, hV⟩ := hrel
    have HB := Lib.hid hB
    by_cases hlt : k < n
    · have hkl : k < l.length := by have := HN.out; omega
      have HIr := HI.out.below hB
      obtain ⟨p, off, rfl, hp, c0, c1, c2, c3, c4, c5, c6, c7, c8, c9, c10, c11⟩ := HIr.at12 hkl (v0 := .string l[k].key) (v1 := .int .i64 l[k].kind) (v2 := .int .i64 l[k].a) (v3 := .int .i64 l[k].b) (v4 := .slice l[k].tv l[k].tags.length l[k].tc) (v5 := .int .i64 l[k].least) (v6 := .int .i64 l[k].most) (v7 := .string l[k].group) (v8 := .bool l[k].alone) (v9 := .int .i64 l[k].order) (v10 := .int .i64 l[k].from_) (v11 := .int .i64 l[k].to_) rfl
      have HV := Lib.hid (hV.step hkl)
      obtain ⟨T, hT⟩ : ∃ T, ((l.take k).any fun y => prB l[k] y) = T := ⟨_, rfl⟩
      rw [hT] at HV
      have HT0 := Lib.hid (show T = ((l.take k).drop 0).any fun y => prB l[k] y by rw [List.drop_zero, hT])
      have HPR := Lib.hid (fun y => show prB l[k] y = (l[k].alone || y.alone || (!decide (l[k].group.size = 0) && decide (y.group.data.toList = l[k].group.data.toList))) from rfl)
      have HAD := Lib.hid (fun j (h : j < (l.take k).length) => any_drop (l.take k) (fun y => prB l[k] y) j h)
      generalize hP : (fun y => prB l[k] y) = P at *
      have hP' : ∀ y, prB l[k] y = P y := fun y => by rw [← hP]
      simp only [hP'] at HPR HAD
      clear hT hP hP'
      generalize l[k] = x at *
      obtain ⟨key, kd, ia, ib, tv, tc, tags, le, mo, gr, al, od, fr, t2⟩ := x
      simp only at c0 c1 c2 c3 c4 c5 c6 c7 c8 c9 c10 c11 HPR
      generalize tags.length = tn at *
      have HBa := Lib.hid (HB.out.alloc HB.out.size (.cells #[.string key, .int .i64 kd, .int .i64 ia, .int .i64 ib, .slice tv tn tc, .int .i64 le, .int .i64 mo, .string gr, .bool al, .int .i64 od, .int .i64 fr, .int .i64 t2] 109))
      have X0 := Lib.hid (XB.new wr [.string key, .int .i64 kd, .int .i64 ia, .int .i64 ib, .slice tv tn tc, .int .i64 le, .int .i64 mo, .string gr, .bool al, .int .i64 od, .int .i64 fr, .int .i64 t2] 109)
      simp only [List.toArray] at X0
      clear hV hB HB HIr
      go_upto_region 4 with (fail)
      generalize wr.alloc (.cells #[.string key, .int .i64 kd, .int .i64 ia, .int .i64 ib, .slice tv tn tc, .int .i64 le, .int .i64 mo, .string gr, .bool al, .int .i64 od, .int .i64 fr, .int .i64 t2] 109) = w2 at *
      generalize hqb : wr.heap.size = qb at *
      clear c0 c1 c2 c3 c4 c5 c6 c7 c8 c9 c10 c11 hp
      go_wp2_with fail
      · skip
        go_loopw [6, 18] (fun _ i wr => ∃ j : Nat, j ≤ k ∧ i = .int .i64 j ∧ Below w.heap.size w wr ∧ XB wr qb [.string key, .int .i64 kd, .int .i64 ia, .int .i64 ib, .slice tv tn tc, .int .i64 le, .int .i64 mo, .string gr, .bool al, .int .i64 od, .int .i64 fr, .int .i64 t2] ∧ Hid (T = ((l.take k).drop j).any P)) (fun _ i _ => k - (intOf i).toNat)
        case atStart => exact ⟨0, Nat.zero_le _, rfl, HBa.out, X0.out, HT0⟩
        case round =>
          obtain ⟨j, hj, rfl, hB, hX, hT⟩ := hrel
          have HX := Lib.hid hX
          have HB := Lib.hid hB
          clear HT0 HBa X0 hX
          by_cases hlj : j < k
          · have hjl : j < (l.take k).length := by simp; omega
            obtain ⟨p', off', hpe, hp, c0, c1, c2, c3, c4, c5, c6, c7, c8, c9, c10, c11⟩ := ((HI.out.below hB).take k).at12 hjl (v0 := .string (l.take k)[j].key) (v1 := .int .i64 (l.take k)[j].kind) (v2 := .int .i64 (l.take k)[j].a) (v3 := .int .i64 (l.take k)[j].b) (v4 := .slice (l.take k)[j].tv (l.take k)[j].tags.length (l.take k)[j].tc) (v5 := .int .i64 (l.take k)[j].least) (v6 := .int .i64 (l.take k)[j].most) (v7 := .string (l.take k)[j].group) (v8 := .bool (l.take k)[j].alone) (v9 := .int .i64 (l.take k)[j].order) (v10 := .int .i64 (l.take k)[j].from_) (v11 := .int .i64 (l.take k)[j].to_) rfl
            injection hpe with hpe
            injection hpe with hp1 hp2
            subst hp1 hp2
            have HD := Lib.hid (hT.out.trans (HAD.out j hjl))
            have HPx := Lib.hid (HPR.out (l.take k)[j])
            generalize P (l.take k)[j] = b at *
            generalize (l.take k)[j] = y at *
            obtain ⟨key2, kd2, ia2, ib2, tv2, tc2, tags2, le2, mo2, gr2, al2, od2, fr2, t22⟩ := y
            simp only at c0 c1 c2 c3 c4 c5 c6 c7 c8 c9 c10 c11 HPx
            generalize tags2.length = tn2 at *
            have HBb := Lib.hid (HB.out.alloc HB.out.size (.cells #[.string key2, .int .i64 kd2, .int .i64 ia2, .int .i64 ib2, .slice tv2 tn2 tc2, .int .i64 le2, .int .i64 mo2, .string gr2, .bool al2, .int .i64 od2, .int .i64 fr2, .int .i64 t22] 109))
            have Y0 := Lib.hid (XB.new wr [.string key2, .int .i64 kd2, .int .i64 ia2, .int .i64 ib2, .slice tv2 tn2 tc2, .int .i64 le2, .int .i64 mo2, .string gr2, .bool al2, .int .i64 od2, .int .i64 fr2, .int .i64 t22] 109)
            have HXb := Lib.hid (HX.out.alloc (.cells #[.string key2, .int .i64 kd2, .int .i64 ia2, .int .i64 ib2, .slice tv2 tn2 tc2, .int .i64 le2, .int .i64 mo2, .string gr2, .bool al2, .int .i64 od2, .int .i64 fr2, .int .i64 t22] 109))
            simp only [List.toArray] at Y0
            clear hT hB HB HX HPR HAD
            go_upto_region 7 with (fail)
            generalize wr.alloc (.cells #[.string key2, .int .i64 kd2, .int .i64 ia2, .int .i64 ib2, .slice tv2 tn2 tc2, .int .i64 le2, .int .i64 mo2, .string gr2, .bool al2, .int .i64 od2, .int .i64 fr2, .int .i64 t22] 109) = w3 at *
            generalize hqc : wr.heap.size = qc at *
            clear c0 c1 c2 c3 c4 c5 c6 c7 c8 c9 c10 c11 hp
            obtain ⟨x0, x1, x2, x3, x4, x5, x6, x7, x8, x9, x10, x11⟩ := HXb.out.at12
            obtain ⟨y0, y1, y2, y3, y4, y5, y6, y7, y8, y9, y10, y11⟩ := Y0.out.at12
            have hxl := HXb.out.1
            have hyl := Y0.out.1
            obtain ⟨ge, hge⟩ : ∃ b, gr.toList.isEmpty = b := ⟨_, rfl⟩
            rw [show decide (gr.size = 0) = ge by rw [← hge, ofIsEmpty]] at HPx
            obtain ⟨qe, hqe⟩ : ∃ b, (gr.toList == gr2.toList) = b := ⟨_, rfl⟩
            rw [show decide (gr2.data.toList = gr.data.toList) = qe by rw [← hqe, Lib.toList_data, Lib.toList_data, Bool.eq_iff_iff, beq_iff_eq, decide_eq_true_eq]; exact eq_comm] at HPx
            cases al with
            | true =>
              have HR := Lib.hid (HV.out.1 (HD.out.trans (by rw [HPx.out]; simp [])))
              clear HD HV HPx
              go_wp2_with fail
              go_ret
              exact ⟨ret_bool HR.out.symm, HBb.out⟩
            | false =>
              cases al2 with
              | true =>
                have HR := Lib.hid (HV.out.1 (HD.out.trans (by rw [HPx.out]; simp [])))
                clear HD HV HPx
                go_wp2_with fail
                go_ret
                exact ⟨ret_bool HR.out.symm, HBb.out⟩
              | false =>
                cases ge with
                | true =>
                  have HR := Lib.hid (show Hid (T = ((l.take k).drop (j + 1)).any P) from Lib.hid (HD.out.trans (by rw [HPx.out]; simp [])))
                  clear HD HPx
                  go_wp2_with fail
                  go_roundw
                  case rel => exact ⟨j + 1, by omega, by go_num, HBb.out, HXb.out, HR.out⟩
                  case measure => simp [intOf]; omega
                | false =>
                  cases qe with
                  | true =>
                    have HR := Lib.hid (HV.out.1 (HD.out.trans (by rw [HPx.out]; simp [])))
                    clear HD HV HPx
                    go_wp2_with fail
                    go_ret
                    exact ⟨ret_bool HR.out.symm, HBb.out⟩
                  | false =>
                    have HR := Lib.hid (show Hid (T = ((l.take k).drop (j + 1)).any P) from Lib.hid (HD.out.trans (by rw [HPx.out]; simp [])))
                    clear HD HPx
                    go_wp2_with fail
                    go_roundw
                    case rel => exact ⟨j + 1, by omega, by go_num, HBb.out, HXb.out, HR.out⟩
                    case measure => simp [intOf]; omega
          · have HE := Lib.hid (show T = false by rw [hT.out, List.drop_eq_nil_of_le (by simp; omega)]; rfl)
            have HI1 := Lib.hid (HV.out.2 HE.out)
            clear hT HV
            go_wp2_with fail
            go_roundw
            case rel => exact ⟨k + 1, by omega, by go_num, HB.out, HI1.out⟩
            case measure => simp [intOf]; omega
    · have HD := Lib.hid (hV.done (by have := HN.out; omega))
      clear hV hB
      go_wp2_with fail
      go_ret
      exact ⟨ret_bool HD.out.symm, HB.out⟩
end Go.Proofs.YtdnikegakcdcnaaDoor
