/- handref1.UniqueOf. -/
import Derived.Test.YtgdagknjnidmiaaGreatDoorUniq
set_option linter.unusedVariables false
namespace Go.Proofs.YtgdagknjnidmiaaGreatDoor
open Go.RowKit Go.Maps Go.Sort

set_option maxRecDepth 100000 in
set_option maxHeartbeats 16000000 in
theorem UniqueOf_any (ac : Option Addr) (acts : List Ac) (na ca : Nat) (kind from_ to_ : Int) (w : World) (hm : acts.length = na) (hm1 : na ≤ 1000) (hJ : RAt w ac 3 Ac.cells acts) (hoka : ∀ x ∈ acts, x.ok) :
    Calls Tryz.prog 17 #[.slice ac na ca, .int .i64 kind, .agg #[.int .i64 from_, .int .i64 to_]] w fun e w' => e = .returned (.tuple #[.int .i64 (uqN acts kind from_ to_), .int .i64 (uqE acts kind from_ to_)]) ∧ Below w.heap.size w w' := by
  have HJ := Lib.hid hJ
  have HM := Lib.hid hm
  have HOA := Lib.hid hoka
  have HE : Hid (uqE acts kind from_ to_ = if acsF acts ≠ 0 then acsF acts else if kndB kind = false then 4 else if from_ < 0 ∨ to_ < from_ ∨ 4321440 < to_ then 1 else 0) := Lib.hid rfl
  have HAN : Hid (uqN acts kind from_ to_ = if uqE acts kind from_ to_ = 0 then ((uqK acts kind from_ to_ acts.length).length : Int) else 0) := Lib.hid rfl
  obtain ⟨E, hE⟩ : ∃ z, uqE acts kind from_ to_ = z := ⟨_, rfl⟩
  obtain ⟨NN, hNN⟩ : ∃ z, uqN acts kind from_ to_ = z := ⟨_, rfl⟩
  rw [hE] at HE HAN
  rw [hNN] at HAN
  rw [hE, hNN]
  obtain ⟨AF, hAF⟩ : ∃ z, acsF acts = z := ⟨_, rfl⟩
  rw [hAF] at HE
  have FAIL : Hid (E ≠ 0 → NN = 0) := Lib.hid (fun h => HAN.out.trans (if_neg h))
  clear hE hNN
  obtain ⟨i0, hi, hz0, hz1, hz2⟩ := info_parts infoStrW
  have HBw := Lib.hid ((Below.refl w.heap.size w).alloc (Nat.le_refl _) (.cells #[.int .i64 from_, .int .i64 to_] 45))
  have HXw := Lib.hid (XB.new w [.int .i64 from_, .int .i64 to_] 45)
  simp only [List.toArray] at HXw
  have CA := Lib.hid (fun w' (hb : Below w.heap.size w w') => ActsFault_any ac acts na ca w' hm hm1 (hJ.below hb) hoka)
  rw [hAF] at CA
  clear hm hJ hoka hAF
  go_enter Tryz.func17, Tryz.ntmps17
  go_upto_region 1 with (fail)
  generalize w.alloc (.cells #[.int .i64 from_, .int .i64 to_] 45) = w1 at *
  obtain ⟨qw, hqw⟩ : ∃ z, w.heap.size = z := ⟨_, rfl⟩
  rw [hqw] at HXw
  try rw [hqw]
  have hqs : w.heap.size ≤ qw := by omega
  clear hqw
  go_wp2_with fail
  with_reducible refine (CA.out _ HBw.out).mono ?_
  rintro e w2 ⟨rfl, b2⟩
  have HB2 := Lib.hid (HBw.out.trans (b2.mono HBw.out.size))
  have HX2 := Lib.hid (HXw.out.below b2)
  clear CA b2 HBw HXw
  have y0 := HX2.out.2 0 _ rfl
  have y1 := HX2.out.2 1 _ rfl
  have hyl := HX2.out.1
  by_cases h1 : AF = 0
  · subst h1
    obtain ⟨kb, hkb⟩ : ∃ z, kndB kind = z := ⟨_, rfl⟩
    rw [hkb] at HE
    by_cases hkk : kind < 1 ∨ 4 < kind
    · obtain rfl : kb = false := by rw [← hkb]; exact decide_eq_false (by omega)
      obtain rfl : E = 4 := by have h := HE.out; rw [if_neg (by simp), if_pos rfl] at h; exact h
      obtain rfl := FAIL.out (by decide)
      rcases hkk with hkk | hkk
      · go_wp2_with fail
        refine bodyPost_ret (v := .tuple #[.int .i64 0, .int .i64 4]) (by simp [results, Tryz.results17, go_sem]) rfl ?_
        exact ⟨rfl, HB2.out⟩
      · have hk9 : ¬ kind < 1 := by omega
        go_wp2_with fail
        refine bodyPost_ret (v := .tuple #[.int .i64 0, .int .i64 4]) (by simp [results, Tryz.results17, go_sem]) rfl ?_
        exact ⟨rfl, HB2.out⟩
    · obtain ⟨hka, hkc⟩ : ¬ kind < 1 ∧ ¬ 4 < kind := by omega
      clear hkk
      obtain rfl : kb = true := by rw [← hkb]; exact decide_eq_true (by omega)
      by_cases hw0 : from_ < 0
      · obtain rfl : E = 1 := by have h := HE.out; rw [if_neg (by simp), if_neg (by simp), if_pos (by omega)] at h; exact h
        obtain rfl := FAIL.out (by decide)
        go_wp2_with fail
        refine bodyPost_ret (v := .tuple #[.int .i64 0, .int .i64 1]) (by simp [results, Tryz.results17, go_sem]) rfl ?_
        exact ⟨rfl, HB2.out⟩
      · by_cases hw1 : to_ < from_
        · obtain rfl : E = 1 := by have h := HE.out; rw [if_neg (by simp), if_neg (by simp), if_pos (by omega)] at h; exact h
          obtain rfl := FAIL.out (by decide)
          go_wp2_with fail
          refine bodyPost_ret (v := .tuple #[.int .i64 0, .int .i64 1]) (by simp [results, Tryz.results17, go_sem]) rfl ?_
          exact ⟨rfl, HB2.out⟩
        · by_cases hw2 : 4321440 < to_
          · obtain rfl : E = 1 := by have h := HE.out; rw [if_neg (by simp), if_neg (by simp), if_pos (by omega)] at h; exact h
            obtain rfl := FAIL.out (by decide)
            go_wp2_with fail
            refine bodyPost_ret (v := .tuple #[.int .i64 0, .int .i64 1]) (by simp [results, Tryz.results17, go_sem]) rfl ?_
            exact ⟨rfl, HB2.out⟩
          · obtain rfl : E = 0 := by have h := HE.out; rw [if_neg (by simp), if_neg (by simp), if_neg (by omega)] at h; exact h
            have HNN : Hid (NN = ((uqK acts kind from_ to_ na).length : Int)) := Lib.hid (by have h := HAN.out; rw [if_pos rfl, HM.out] at h; exact h)
            clear HE HAN FAIL
            have hqb : qw < w2.heap.size := HX2.out.1
            obtain ⟨B3, hB3⟩ : ∃ z, w2.heap.size = z := ⟨_, rfl⟩
            have hwB : w.heap.size ≤ B3 := by rw [← hB3]; exact HB2.out.size
            have hB4 : B3 ≤ w2.heap.size := by omega
            rw [hB3] at hqb
            clear hB3
            go_upto_region 9 with (fail)
            clear y0 y1 hyl
            go_wp2_with fail
            go_loopw [9, 11, 40] (fun v9 _ i wr => ∃ (k j : Nat) (v : Value), k ≤ na ∧ i = .int .i64 k ∧ v = v9 ∧ (uqS acts kind from_ to_ k).length = j ∧ wr.ownsRow B3 9 1 v j ((uqS acts kind from_ to_ k).map Value.string) ∧ XB wr qw [.int .i64 from_, .int .i64 to_] ∧ Below w.heap.size w wr ∧ B3 ≤ wr.heap.size) (fun _ _ i _ => na - (intOf i).toNat)
            case atStart => exact ⟨0, 0, _, Nat.zero_le _, rfl, rfl, rfl, World.ownsRow_nil _ _ _ _, HX2.out, HB2.out, hB4⟩
            case round =>
              obtain ⟨k, j, v, hk, rfl, rfl, hjl, hV, hX, hB, hsz⟩ := hrel
              have HV := Lib.hid hV
              have HJL := Lib.hid hjl
              have hj1 : j ≤ k := by rw [← hjl]; exact uqS_len _ _ _ _ _
              have HX := Lib.hid hX
              have HB := Lib.hid hB
              clear HX2 HB2 hV hX hB hjl
              by_cases hlt : k < na
              · have hkl : k < acts.length := by have := HM.out; omega
                obtain ⟨p, off, hap, hp, c0, c1, c2⟩ := rat3 (HJ.out.below HB.out) hkl (v0 := .string acts[k].sent) (v1 := .int .i64 acts[k].kind) (v2 := .int .i64 acts[k].at_) rfl
                subst hap
                obtain ⟨o1, o2, o3, o4, o5⟩ := HOA.out acts[k] (List.getElem_mem hkl)
                have HU := Lib.hid (uqS_succ acts kind from_ to_ k hkl)
                generalize acts[k] = x at *
                obtain ⟨aid, ak, aat⟩ := x
                simp only at c0 c1 c2 o1
                rw [inW_parts] at HU
                simp only at HU
                have HBx := Lib.hid (HB.out.alloc HB.out.size (.cells #[.string aid, .int .i64 ak, .int .i64 aat] 65))
                have HVx := Lib.hid (HV.out.alloc (.cells #[.string aid, .int .i64 ak, .int .i64 aat] 65))
                have HXx := Lib.hid (HX.out.alloc (.cells #[.string aid, .int .i64 ak, .int .i64 aat] 65))
                have HA := Lib.hid (XB.new wr [.string aid, .int .i64 ak, .int .i64 aat] 65)
                simp only [List.toArray] at HA
                have hsz2 : B3 ≤ (wr.alloc (.cells #[.string aid, .int .i64 ak, .int .i64 aat] 65)).heap.size := by rw [World.size_alloc]; omega
                go_upto_region 12 with (fail)
                generalize wr.alloc (.cells #[.string aid, .int .i64 ak, .int .i64 aat] 65) = wa at *
                generalize wr.heap.size = q at *
                clear c0 c1 c2 HV HX HB
                obtain ⟨x0, x1, x2⟩ : wa.cell? ⟨q, 0, none⟩ = some (.string aid) ∧ wa.cell? ⟨q, 1, none⟩ = some (.int .i64 ak) ∧ wa.cell? ⟨q, 2, none⟩ = some (.int .i64 aat) := ⟨HA.out.2 0 _ rfl, HA.out.2 1 _ rfl, HA.out.2 2 _ rfl⟩
                have hxl := HA.out.1
                have y0 := HXx.out.2 0 _ rfl
                have y1 := HXx.out.2 1 _ rfl
                have hyl := HXx.out.1
                have hsm : aid.size ≤ maxLen := by unfold maxLen; omega
                by_cases hc1 : ak = kind
                · by_cases hc2 : from_ ≤ aat
                  · by_cases hc3 : aat < to_
                    · rw [decide_eq_true hc1, decide_eq_true hc2, decide_eq_true hc3, if_pos (show (true && (true && true)) = true from rfl)] at HU
                      subst hc1
                      have BA := (RowKit.Below.refl wa.heap.size wa).alloc (Nat.le_refl _) (.cells #[.string aid] 9)
                      have HOb := Lib.hid (rowW_below HVx.out BA)
                      have HBb := Lib.hid (HBx.out.trans (BA.mono HBx.out.size))
                      have HXb := Lib.hid (HXx.out.below BA)
                      have HNW : Hid (∀ j u, ([.string aid] : List Value)[j]? = some u → (wa.alloc (.cells #[.string aid] 9)).cell? ((⟨wa.heap.size, 0, none⟩ : Addr).add j) = some u) := Lib.hid (fun j u h => World.news_of_block (heap_alloc_new wa (.cells #[.string aid] 9)) j u h)
                      have HSb : Hid (B3 ≤ (wa.alloc (.cells #[.string aid] 9)).heap.size) := Lib.hid (by rw [World.size_alloc]; omega)
                      have HOB : Hid (∀ g, v.ownBlock = some g → B3 ≤ g) := Lib.hid (fun g hg => (HVx.out.lt g hg).1)
                      have hmy : j + 1 ≤ maxLen := by unfold maxLen; omega
                      have hmb : (j + 1) * 16 ≤ 140737488355328 := by omega
                      clear BA HVx HBx HXx
                      go_wp2_with (first | (at_builtin; refine wpList_append_lies _ rfl _ _ 75 rfl B3 9 i0 _ 1 16 Tryz.underlying75 hi hz0 hz1 hz2 rfl (by decide) v j _ rfl HOb.out ⟨wa.heap.size, 0, none⟩ 1 1 [.string aid] rfl rfl HNW.out ?ca2 Nat.one_pos hmy hmb HSb.out _ rfl ?_))
                      case ca2 => simp [Value.oneCell']
                      intro gq cq9 w9 own9 g9 at9 lt9
                      have HV9 : Hid (w9.ownsRow B3 9 1 (.slice (some ⟨gq, 0, none⟩) (j + 1) cq9) (j + 1) ((uqS acts ak from_ to_ (k + 1)).map Value.string)) := Lib.hid (by rw [HU.out, List.map_append]; exact own9)
                      have HX9 := Lib.hid (HXb.out.grown g9 (fun e => by have := HOB.out qw e; omega))
                      have HB9 := Lib.hid (HBb.out.grown g9 HBb.out.size (fun g hg => by have := HOB.out g hg; omega))
                      have hs9 : B3 ≤ w9.heap.size := Nat.le_trans HSb.out g9.size
                      have hl9 : (uqS acts ak from_ to_ (k + 1)).length = j + 1 := by rw [HU.out, List.length_append, HJL.out]; rfl
                      clear own9 g9 at9 lt9 HOb HXb HBb HA x0 x1 x2 hxl y0 y1 hyl HU HNW HSb HOB
                      go_wp2_with fail
                      go_roundw
                      case rel => exact ⟨k + 1, j + 1, _, by omega, by go_num, rfl, hl9, HV9.out, HX9.out, HB9.out, hs9⟩
                      case measure => simp [intOf]; omega
                    · rw [decide_eq_true hc1, decide_eq_true hc2, decide_eq_false hc3, if_neg (by simp)] at HU
                      subst hc1
                      go_wp2_with fail
                      go_roundw
                      case rel => exact ⟨k + 1, j, v, by omega, by go_num, rfl, by rw [HU.out]; exact HJL.out, by rw [HU.out]; exact HVx.out, HXx.out, HBx.out, hsz2⟩
                      case measure => simp [intOf]; omega
                  · rw [decide_eq_true hc1, decide_eq_false hc2, if_neg (by simp)] at HU
                    subst hc1
                    go_wp2_with fail
                    go_roundw
                    case rel => exact ⟨k + 1, j, v, by omega, by go_num, rfl, by rw [HU.out]; exact HJL.out, by rw [HU.out]; exact HVx.out, HXx.out, HBx.out, hsz2⟩
                    case measure => simp [intOf]; omega
                · rw [decide_eq_false hc1, if_neg (by simp)] at HU
                  have hce : (ak == kind) = false := by simpa using hc1
                  go_wp2_with fail
                  go_roundw
                  case rel => exact ⟨k + 1, j, v, by omega, by go_num, rfl, by rw [HU.out]; exact HJL.out, by rw [HU.out]; exact HVx.out, HXx.out, HBx.out, hsz2⟩
                  case measure => simp [intOf]; omega
              · obtain rfl : na = k := by omega
                have CS := Lib.hid (sortedS_any B3 j v _ wr HV.out HJL.out (by omega))
                obtain ⟨N, hN⟩ : ∃ z, (uqK acts kind from_ to_ na).length = z := ⟨_, rfl⟩
                have hC := uq_compact acts kind from_ to_
                rw [HM.out, hN] at hC
                rw [hN] at HNN
                rw [hC] at CS
                clear hC hN HV HX
                go_wp2_with fail
                with_reducible refine CS.out.mono ?_
                rintro e ws ⟨a9, c9, rfl, b9⟩
                have HB9 := Lib.hid (HB.out.trans (b9.mono HB.out.size))
                clear b9 CS
                go_wp2_with fail
                refine bodyPost_ret (v := .tuple #[.int .i64 (N : Int), .int .i64 0]) (by simp [results, Tryz.results17, go_sem]) rfl ?_
                rw [HNN.out]
                exact ⟨rfl, HB9.out⟩
  · have e1 : (AF == 0) = false := by simpa using h1
    have e2 : (AF != 0) = true := by simpa using h1
    obtain rfl : E = AF := HE.out.trans (if_pos h1)
    obtain rfl := FAIL.out h1
    go_wp2_with fail
    refine bodyPost_ret (v := .tuple #[.int .i64 0, .int .i64 E]) (by simp [results, Tryz.results17, go_sem]) rfl ?_
    exact ⟨rfl, HB2.out⟩
end Go.Proofs.YtgdagknjnidmiaaGreatDoor
