/- measure.Unique, handref1.sorted, handref1.UniqueOf. -/
import Derived.Test.YtgdagknjnidmiaaGreatDoorUniqP
import Derived.Test.YtgdagknjnidmiaaGreatDoorCheckActs
import Derived.Test.YtgdagknjnidmiaaGreatDoorRwO
import Derived.Test.YtgdagknjnidmiaaGreatDoorShelf
import Derived.Sort.OwnSorted
import Derived.Maps.OwnSet
import Derived.Deep.RegionWith
import Derived.Deep.Cut
set_option linter.unusedVariables false
namespace Go.Proofs.YtgdagknjnidmiaaGreatDoor
open Go.RowKit Go.Maps Go.Sort

theorem grow_nilW (w : World) : grow w #[] = w := by unfold grow; simp
theorem encW (l : List ByteArray) : (l.map fun s => s.data.toList).map encStr = l.map Value.string := by
  rw [List.map_map]
  rfl
set_option maxHeartbeats 4000000 in
theorem sortedS_any (B j : Nat) (v : Value) (l : List ByteArray) (w : World) (own : w.ownsRow B 9 1 v j (l.map Value.string)) (hl : l.length = j) (hj : j ≤ 1000) :
    Calls Tryz.prog 46 #[v] w fun e w' => ∃ a c, e = .returned (.slice a (Lib.compact ((l.map fun s => s.data.toList).mergeSort fun x y => decide (x ≤ y))).length c) ∧ Below w.heap.size w w' := by
  obtain ⟨N, hN⟩ : ∃ z, (Lib.compact ((l.map fun s => s.data.toList).mergeSort fun x y => decide (x ≤ y))).length = z := ⟨_, rfl⟩
  rw [hN]
  by_cases h0 : j = 0
  · subst h0
    obtain rfl := List.eq_nil_of_length_eq_zero hl
    obtain rfl : N = 0 := by rw [← hN]; simp [Lib.compact, Lib.compactUpTo]
    clear hN
    rcases own.2 with ⟨rfl, -⟩ | ⟨g, cap, cur, rfl, -⟩
    · have C1 := Lib.hid (Tryz.slices_Clone_string_nil 0 0 w)
      go_enter Tryz.func46, Tryz.ntmps46
      go_wp2_with fail
      with_reducible refine C1.out.mono ?_
      rintro e w1 ⟨rfl, rfl⟩
      go_wp2_with fail
      with_reducible refine (Tryz.slices_Sort_string_none none 0 _).mono ?_
      rintro e w2 ⟨rfl, rfl⟩
      go_wp2_with fail
      with_reducible refine (Tryz.slices_Compact_string_empty none 0 _).mono ?_
      rintro e w3 ⟨rfl, rfl⟩
      go_wp2_with fail
      go_ret
      exact ⟨none, 0, rfl, Below.refl _ _⟩
    · have C1 := Lib.hid (Tryz.slices_Clone_string_zero ⟨g, 0, none⟩ cap w)
      clear own
      go_enter Tryz.func46, Tryz.ntmps46
      go_wp2_with fail
      with_reducible refine C1.out.mono ?_
      rintro e w1 ⟨v', rfl, own', -, b1⟩
      obtain ⟨a', c', rfl, -, -⟩ := rowW_shape own'
      have HB1 := Lib.hid b1
      clear own' b1 C1
      go_wp2_with fail
      with_reducible refine (Tryz.slices_Sort_string_none a' c' _).mono ?_
      rintro e w2 ⟨rfl, rfl⟩
      go_wp2_with fail
      with_reducible refine (Tryz.slices_Compact_string_empty a' c' _).mono ?_
      rintro e w3 ⟨rfl, rfl⟩
      go_wp2_with fail
      go_ret
      exact ⟨a', c', rfl, HB1.out⟩
  · have hj0 : 0 < j := by omega
    obtain ⟨g, cap, hv, hbs, hls⟩ := own.form hj0
    subst hv
    have C1 := Lib.hid (Tryz.slices_Clone_string g 0 j cap l w (by omega) (by omega) (fun k hk => by
      have h := own.cellAt k (by omega)
      rw [List.getElem?_map, List.getElem?_eq_getElem hk] at h
      rw [Nat.zero_add, List.getD_eq_getElem?_getD, List.getElem?_eq_getElem hk]
      exact h))
    have HLL := Lib.hid hl
    have HN9 := Lib.hid hN
    clear own hl hN
    go_enter Tryz.func46, Tryz.ntmps46
    go_wp2_with fail
    with_reducible refine C1.out.mono ?_
    rintro e w1 ⟨v', rfl, own', -, b1⟩
    rw [List.take_of_length_le (by rw [HLL.out]; exact Nat.le_refl _), ← encW l] at own'
    rcases own'.2 with ⟨-, hk0⟩ | ⟨g2, cap2, cur, rfl, hbase, hb2, hn2, hm2, hs2, ht2⟩
    · exact absurd hk0 h0
    · obtain ⟨ss, hss⟩ : ∃ z, (l.map fun s => s.data.toList) = z := ⟨_, rfl⟩
      rw [hss] at ht2 HN9
      have hsl : ss.length = j := by rw [← hss, List.length_map]; exact HLL.out
      have ht3 : cur.toList.take ss.length = ss.map encStr := by rw [hsl]; simpa using ht2
      have hH := holds_of_block hb2 ht3
      have hg2 : g2 < w1.heap.size := (Array.getElem?_eq_some_iff.1 hb2).1
      have C2 := Lib.hid (Tryz.slices_Sort_string g2 0 cap2 ss w1 hH hg2 (by omega))
      rw [hsl] at C2
      have HB1 := Lib.hid b1
      obtain ⟨ts, hts⟩ : ∃ z, (ss.mergeSort fun x y => decide (x ≤ y)) = z := ⟨_, rfl⟩
      have htl : ts.length = j := by rw [← hts, List.length_mergeSort]; exact hsl
      have HOS := Lib.hid (fun n os => ownsRow_sorted (w := w1) (base := w.heap.size) (g := g2) (cap := cap2) (n := n) (e := 9) (os := os) (cur := cur) (ss := ss) (ts := ts) (by rw [htl, hsl]) hbase hb2 (by rw [hsl]; exact hn2) hm2 hs2)
      rw [hts] at C2 HN9
      clear hss hts own' C1 b1 hb2 ht2 ht3 hH hs2
      go_wp2_with fail
      with_reducible refine C2.out.mono ?_
      rintro e w2 ⟨rfl, n, os, rfl⟩
      have own3 := HOS.out n os
      have HB2 := Lib.hid (HB1.out.grown (grownBy_sorted (w := w1) (g := g2) (n := n) (os := os) ts.toArray) HB1.out.size (fun q hq => by have := Option.some.inj hq; omega))
      clear HOS HB1 C2
      generalize grow (putRow encStr (Sort.ahead w1 n) g2 0 ts.toArray) os = w2 at *
      rcases own3.2 with ⟨e9, -⟩ | ⟨g3, cap3, cur3, e3, hbase3, hb3, hn3, hm3, hs3, ht4⟩
      · cases e9
      · injection e3 with e4 e5 e6
        injection e4 with e4
        injection e4 with e4
        subst e4 e6
        have ht5 : cur3.toList.take ts.length = ts.map encStr := by rw [htl, ← hsl]; simpa using ht4
        have C3 := Lib.hid (Tryz.slices_Compact_string g2 0 cap2 ts w2 (holds_of_block hb3 ht5) (by omega) (by omega))
        rw [htl, HN9.out] at C3
        clear own3 hb3 ht4 ht5 hs3
        go_wp2_with fail
        with_reducible refine C3.out.mono ?_
        rintro e w3 ⟨rfl, q, hw3⟩
        have HB3 : Hid (Below w.heap.size w w3) := Lib.hid (by
          rw [hw3]
          have h := HB2.out.grown (grownBy_sorted (w := w2) (g := g2) (n := q) (os := #[]) (Lib.compact ts ++ List.replicate (j - N) []).toArray) HB2.out.size (fun q' hq => by have := Option.some.inj hq; omega)
          rw [grow_nilW] at h
          exact h)
        clear hw3 C3 HB2
        go_wp2_with fail
        go_ret
        exact ⟨_, _, rfl, HB3.out⟩

theorem infoStrW : (Tryz.prog.info? 9).map (fun i => (i.zero, i.size, i.bytes)) = some (some (.string ⟨#[]⟩), 1, 16) := by kernel_rfl
theorem putT (ks : List ByteArray) (s : ByteArray) : putV (fun x => .bool (hasS ks x)) s (.bool true) = fun x => .bool (hasS (addK ks s) x) := by
  funext x
  unfold putV
  rw [hasS_addK]
  by_cases e : sameS s x = true
  · rw [if_pos e, e, Bool.or_true]
  · have e' : sameS s x = false := by simpa using e
    rw [if_neg e, e', Bool.or_false]
theorem wpList_len_vm {ops : Array Oper} {rest : List Oper} {o : Oper} {a : Act} {Q : Exit → Act → World → Prop} (w : World) (hg : o.guard = none) (m : Operand) (t et : TypeId) (hop : o.op = Op.call { callee := Callee.builtin Builtin.len, args := #[m], argTypes := #[t] }) (hu : (Tryz.prog).underlying t = some (.map 9 et))
    (z : Value) (b n : Nat) (ks : List ByteArray) (g : ByteArray → Value) (hm : a.eval m = .map (some b)) (h : VM w z b n ks g) (hnd : ks.Nodup) (N : Nat) (hN : ks.length = N)
    (hK : wpList Tryz.prog ops Q rest (a.put o.dst (.int .i64 (N : Int))) w) : wpList Tryz.prog ops Q (o :: rest) a w := by
  obtain ⟨D, hown, hD, hat⟩ := h
  refine wpList_len_own w hg m t hop _ et hu heldElem b n D hm hown ?_
  rw [vm_size hown (fun s => (hat s).1) hnd, hN]
  exact hK
theorem inW_parts (kind a b : Int) (x : Ac) : inW kind a b x = (decide (x.kind = kind) && (decide (a ≤ x.at_) && decide (x.at_ < b))) := rfl

set_option maxRecDepth 100000 in
set_option maxHeartbeats 16000000 in
theorem Unique_any (ac : Option Addr) (acts : List Ac) (na ca : Nat) (kind from_ to_ : Int) (w : World) (hm : acts.length = na) (hm1 : na ≤ 1000) (hJ : RAt w ac 3 Ac.cells acts) (hoka : ∀ x ∈ acts, x.ok) :
    Calls Tryz.prog 16 #[.slice ac na ca, .int .i64 kind, .agg #[.int .i64 from_, .int .i64 to_]] w fun e w' => e = .returned (.tuple #[.int .i64 (uqN acts kind from_ to_), .int .i64 (uqE acts kind from_ to_)]) ∧ Below w.heap.size w w' := by
  have HJ := Lib.hid hJ
  have HM := Lib.hid hm
  have HOA := Lib.hid hoka
  have HE : Hid (uqE acts kind from_ to_ = if acsF acts ≠ 0 then acsF acts else if kndB kind = false then 4 else if from_ < 0 ∨ to_ < from_ ∨ 4321440 < to_ then 1 else 0) := Lib.hid rfl
  have HAN : Hid (uqN acts kind from_ to_ = if uqE acts kind from_ to_ = 0 then ((uqK acts kind from_ to_ acts.length).length : Int) else 0) := Lib.hid rfl
  obtain ⟨E, hE⟩ : ∃ z, uqE acts kind from_ to_ = z := ⟨_, rfl⟩
  obtain ⟨NN, hNN⟩ : ∃ z, uqN acts kind from_ to_ = z := ⟨_, rfl⟩
  rw [hE] at HE HAN
  rw [hNN] at HAN
  rw [hE, hNN]
  obtain ⟨AF, hAF⟩ : ∃ z, acsF acts = z := ⟨_, rfl⟩
  rw [hAF] at HE
  have FAIL : Hid (E ≠ 0 → NN = 0) := Lib.hid (fun h => HAN.out.trans (if_neg h))
  clear hE hNN
  have hmm := @run_makeMap Tryz.prog
  have HBw := Lib.hid ((Below.refl w.heap.size w).alloc (Nat.le_refl _) (.cells #[.int .i64 from_, .int .i64 to_] 45))
  have HXw := Lib.hid (XB.new w [.int .i64 from_, .int .i64 to_] 45)
  simp only [List.toArray] at HXw
  have CA := Lib.hid (fun w' (hb : Below w.heap.size w w') => CheckActs_any ac acts na ca w' hm hm1 (hJ.below hb) hoka)
  have CK := Lib.hid (fun w => isAct_any kind w)
  rw [hAF] at CA
  clear hm hJ hoka hAF
  go_enter Tryz.func16, Tryz.ntmps16
  go_upto_region 1 with (fail)
  generalize w.alloc (.cells #[.int .i64 from_, .int .i64 to_] 45) = w1 at *
  obtain ⟨qw, hqw⟩ : ∃ z, w.heap.size = z := ⟨_, rfl⟩
  rw [hqw] at HXw
  try rw [hqw]
  have hqs : w.heap.size ≤ qw := by omega
  clear hqw
  go_wp2_with fail
  with_reducible refine (CA.out _ HBw.out).mono ?_
  rintro e w2 ⟨rfl, b2⟩
  have HB2 := Lib.hid (HBw.out.trans (b2.mono HBw.out.size))
  have HX2 := Lib.hid (HXw.out.below b2)
  clear CA b2 HBw HXw
  have y0 := HX2.out.2 0 _ rfl
  have y1 := HX2.out.2 1 _ rfl
  have hyl := HX2.out.1
  by_cases h1 : AF = 0
  · subst h1
    go_wp2_with fail
    with_reducible refine (CK.out _).mono ?_
    rintro e w3 ⟨rfl, rfl⟩
    obtain ⟨kb, hkb⟩ : ∃ z, kndB kind = z := ⟨_, rfl⟩
    rw [hkb] at HE ⊢
    clear CK
    cases kb with
    | false =>
      obtain rfl : E = 4 := by have h := HE.out; rw [if_neg (by simp), if_pos rfl] at h; exact h
      obtain rfl := FAIL.out (by decide)
      go_wp2_with fail
      refine bodyPost_ret (v := .tuple #[.int .i64 0, .int .i64 4]) (by simp [results, Tryz.results16, go_sem]) rfl ?_
      exact ⟨rfl, HB2.out⟩
    | true =>
      by_cases hw0 : from_ < 0
      · obtain rfl : E = 1 := by have h := HE.out; rw [if_neg (by simp), if_neg (by simp), if_pos (by omega)] at h; exact h
        obtain rfl := FAIL.out (by decide)
        go_wp2_with fail
        refine bodyPost_ret (v := .tuple #[.int .i64 0, .int .i64 1]) (by simp [results, Tryz.results16, go_sem]) rfl ?_
        exact ⟨rfl, HB2.out⟩
      · by_cases hw1 : to_ < from_
        · obtain rfl : E = 1 := by have h := HE.out; rw [if_neg (by simp), if_neg (by simp), if_pos (by omega)] at h; exact h
          obtain rfl := FAIL.out (by decide)
          go_wp2_with fail
          refine bodyPost_ret (v := .tuple #[.int .i64 0, .int .i64 1]) (by simp [results, Tryz.results16, go_sem]) rfl ?_
          exact ⟨rfl, HB2.out⟩
        · by_cases hw2 : 4321440 < to_
          · obtain rfl : E = 1 := by have h := HE.out; rw [if_neg (by simp), if_neg (by simp), if_pos (by omega)] at h; exact h
            obtain rfl := FAIL.out (by decide)
            go_wp2_with fail
            refine bodyPost_ret (v := .tuple #[.int .i64 0, .int .i64 1]) (by simp [results, Tryz.results16, go_sem]) rfl ?_
            exact ⟨rfl, HB2.out⟩
          · obtain rfl : E = 0 := by have h := HE.out; rw [if_neg (by simp), if_neg (by simp), if_neg (by omega)] at h; exact h
            have HNN : Hid (NN = ((uqK acts kind from_ to_ na).length : Int)) := Lib.hid (by have h := HAN.out; rw [if_pos rfl, HM.out] at h; exact h)
            clear HE HAN FAIL
            have HV0 : Hid (VM (w2.alloc (.map #[] 0)) (.bool false) w2.heap.size 0 (uqK acts kind from_ to_ 0) (fun s => .bool (hasS (uqK acts kind from_ to_ 0) s))) := Lib.hid (VM.made w2 (.bool false))
            have HB3 := Lib.hid (HB2.out.alloc HB2.out.size (.map #[] 0))
            have HX3 := Lib.hid (HX2.out.alloc (.map #[] 0))
            obtain ⟨b, hb⟩ : ∃ z, w2.heap.size = z := ⟨_, rfl⟩
            rw [hb] at HV0
            have hwb : w.heap.size ≤ b := by rw [← hb]; exact HB2.out.size
            have hqb : qw < b := by rw [← hb]; exact HX2.out.1
            clear HB2 HX2
            go_upto_region 9 with (fail)
            generalize w2.alloc (.map #[] 0) = w3 at *
            try rw [hb]
            clear hb y0 y1 hyl
            go_wp2_with fail
            go_loopw [11, 40] (fun _ i wr => ∃ (k n1 : Nat), k ≤ na ∧ i = .int .i64 k ∧ n1 ≤ k ∧ VM wr (.bool false) b n1 (uqK acts kind from_ to_ k) (fun s => .bool (hasS (uqK acts kind from_ to_ k) s)) ∧ XB wr qw [.int .i64 from_, .int .i64 to_] ∧ Below w.heap.size w wr) (fun _ i _ => na - (intOf i).toNat)
            case atStart => exact ⟨0, 0, Nat.zero_le _, rfl, Nat.le_refl _, HV0.out, HX3.out, HB3.out⟩
            case round =>
              obtain ⟨k, n1, hk, rfl, hn1', hV, hX, hB⟩ := hrel
              have HV := Lib.hid hV
              have HX := Lib.hid hX
              have HB := Lib.hid hB
              clear HV0 HX3 HB3 hV hX hB
              by_cases hlt : k < na
              · have hkl : k < acts.length := by have := HM.out; omega
                obtain ⟨p, off, hap, hp, c0, c1, c2⟩ := rat3 (HJ.out.below HB.out) hkl (v0 := .string acts[k].sent) (v1 := .int .i64 acts[k].kind) (v2 := .int .i64 acts[k].at_) rfl
                subst hap
                obtain ⟨o1, o2, o3, o4, o5⟩ := HOA.out acts[k] (List.getElem_mem hkl)
                have HU := Lib.hid (uqK_succ acts kind from_ to_ k hkl)
                generalize acts[k] = x at *
                obtain ⟨aid, ak, aat⟩ := x
                simp only at c0 c1 c2 o1
                rw [inW_parts] at HU
                simp only at HU
                have HBx := Lib.hid (HB.out.alloc HB.out.size (.cells #[.string aid, .int .i64 ak, .int .i64 aat] 65))
                have HVx := Lib.hid (HV.out.alloc (.cells #[.string aid, .int .i64 ak, .int .i64 aat] 65))
                have HXx := Lib.hid (HX.out.alloc (.cells #[.string aid, .int .i64 ak, .int .i64 aat] 65))
                have HA := Lib.hid (XB.new wr [.string aid, .int .i64 ak, .int .i64 aat] 65)
                simp only [List.toArray] at HA
                have hqg : b < wr.heap.size := HV.out.lt
                go_upto_region 12 with (fail)
                generalize wr.alloc (.cells #[.string aid, .int .i64 ak, .int .i64 aat] 65) = wa at *
                generalize wr.heap.size = q at *
                clear c0 c1 c2 HV HX HB
                obtain ⟨x0, x1, x2⟩ : wa.cell? ⟨q, 0, none⟩ = some (.string aid) ∧ wa.cell? ⟨q, 1, none⟩ = some (.int .i64 ak) ∧ wa.cell? ⟨q, 2, none⟩ = some (.int .i64 aat) := ⟨HA.out.2 0 _ rfl, HA.out.2 1 _ rfl, HA.out.2 2 _ rfl⟩
                have hxl := HA.out.1
                have y0 := HXx.out.2 0 _ rfl
                have y1 := HXx.out.2 1 _ rfl
                have hyl := HXx.out.1
                have hsm : aid.size ≤ maxLen := by unfold maxLen; omega
                have hkm : n1 < maxLen := by unfold maxLen; omega
                by_cases hc1 : ak = kind
                · by_cases hc2 : from_ ≤ aat
                  · by_cases hc3 : aat < to_
                    · rw [decide_eq_true hc1, decide_eq_true hc2, decide_eq_true hc3, if_pos (show (true && (true && true)) = true from rfl)] at HU
                      subst hc1
                      go_wp2_with (first | (at_mapUpdate; refine wpList_update_vm _ rfl _ _ _ 95 4 rfl Tryz.underlying95 (.bool false) b n1 _ _ rfl HVx.out hkm aid (.bool true) rfl rfl hsm ?_))
                      intro w9 hv9 g9
                      rw [putT, ← HU.out] at hv9
                      have HV9 := Lib.hid hv9
                      have HX9 := Lib.hid (HXx.out.grown g9 (fun e => by have := Option.some.inj e; omega))
                      have HB9 := Lib.hid (HBx.out.grown g9 HBx.out.size (fun g hg => by have := Option.some.inj hg; omega))
                      clear hv9 g9 HVx HXx HBx HA x0 x1 x2 hxl y0 y1 hyl HU
                      go_wp2_with fail
                      go_roundw
                      case rel => exact ⟨k + 1, n1 + 1, by omega, by go_num, by omega, HV9.out, HX9.out, HB9.out⟩
                      case measure => simp [intOf]; omega
                    · rw [decide_eq_true hc1, decide_eq_true hc2, decide_eq_false hc3, if_neg (by simp)] at HU
                      subst hc1
                      go_wp2_with fail
                      go_roundw
                      case rel => exact ⟨k + 1, n1, by omega, by go_num, by omega, by rw [HU.out]; exact HVx.out, HXx.out, HBx.out⟩
                      case measure => simp [intOf]; omega
                  · rw [decide_eq_true hc1, decide_eq_false hc2, if_neg (by simp)] at HU
                    subst hc1
                    go_wp2_with fail
                    go_roundw
                    case rel => exact ⟨k + 1, n1, by omega, by go_num, by omega, by rw [HU.out]; exact HVx.out, HXx.out, HBx.out⟩
                    case measure => simp [intOf]; omega
                · rw [decide_eq_false hc1, if_neg (by simp)] at HU
                  have hce : (ak == kind) = false := by simpa using hc1
                  go_wp2_with fail
                  go_roundw
                  case rel => exact ⟨k + 1, n1, by omega, by go_num, by omega, by rw [HU.out]; exact HVx.out, HXx.out, HBx.out⟩
                  case measure => simp [intOf]; omega
              · obtain rfl : na = k := by omega
                obtain ⟨N, hN⟩ : ∃ z, (uqK acts kind from_ to_ na).length = z := ⟨_, rfl⟩
                rw [hN] at HNN
                have hnd := uqK_nodup acts kind from_ to_ na
                go_wp2_with (first | (at_len; refine wpList_len_vm _ rfl _ 95 4 rfl Tryz.underlying95 (.bool false) b n1 _ _ rfl HV.out hnd N hN ?_))
                refine bodyPost_ret (v := .tuple #[.int .i64 (N : Int), .int .i64 0]) (by simp [results, Tryz.results16, go_sem]) rfl ?_
                rw [HNN.out]
                exact ⟨rfl, HB.out⟩
  · have e1 : (AF == 0) = false := by simpa using h1
    have e2 : (AF != 0) = true := by simpa using h1
    obtain rfl : E = AF := HE.out.trans (if_pos h1)
    obtain rfl := FAIL.out h1
    go_wp2_with fail
    refine bodyPost_ret (v := .tuple #[.int .i64 0, .int .i64 E]) (by simp [results, Tryz.results16, go_sem]) rfl ?_
    exact ⟨rfl, HB2.out⟩
end Go.Proofs.YtgdagknjnidmiaaGreatDoor
