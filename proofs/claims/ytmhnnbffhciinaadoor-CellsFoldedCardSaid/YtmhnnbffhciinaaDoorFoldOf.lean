/- Folding as the reference does it: its step, and its keys. -/
import Derived.Test.YtmhnnbffhciinaaDoorSearchCe
import Derived.Test.YtmhnnbffhciinaaDoorInsertCe
set_option linter.unusedVariables false
namespace Go.Proofs.YtmhnnbffhciinaaDoor
open Go.RowKit

/-- keys of one's own that grow -/
structure KR (w0 : World) (bx : Nat) (wr : World) (v : Value) (ks : List ByteArray) : Prop where
  own : wr.ownsRow bx 9 1 v ks.length (ks.map Value.string)
  hw : w0.heap.size ≤ bx
  sz : bx ≤ wr.heap.size
  bel : Below w0.heap.size w0 wr
theorem KR.new {w0 wr : World} {bx : Nat} (h : Below w0.heap.size w0 wr) (h1 : w0.heap.size ≤ bx) (h2 : bx ≤ wr.heap.size) : KR w0 bx wr (.slice none 0 0) [] := ⟨World.ownsRow_nil _ _ _ _, h1, h2, h⟩
theorem KR.app {w0 wr w8 : World} {bx n : Nat} {v v' : Value} {ks : List ByteArray} {s : ByteArray} {o : Obj} (h : KR w0 bx wr v ks) (hn : ks.length = n)
    (hown : w8.ownsRow bx 9 1 v' (n + 1) (ks.map Value.string ++ [.string s])) (hgrow : (wr.alloc o).grownBy w8 v.ownBlock) :
    KR w0 bx w8 v' (ks ++ [s]) ∧ (∀ p cs, p < bx → XB wr p cs → XB w8 p cs) := by
  subst hn
  have hrow := fun k hk => (h.own.lt k hk).1
  have hz := hgrow.size
  simp at hz
  have hsz := h.sz
  have hw := h.hw
  refine ⟨⟨?_, h.hw, by omega, ?_⟩, fun p cs hp hx => ?_⟩
  · rw [List.length_append, List.length_singleton, List.map_append, List.map_cons, List.map_nil]
    exact hown
  · exact (h.bel.alloc (by omega) o).grown hgrow (by simp; omega) (fun k hk => by have := hrow k hk; omega)
  · exact (hx.alloc o).grown hgrow (fun e => by have := hrow p e; omega)
theorem KR.form {w0 wr : World} {bx : Nat} {v : Value} {ks : List ByteArray} (h : KR w0 bx wr v ks) : ∃ ta tc, v = .slice ta ks.length tc := by
  rcases h.own.2 with ⟨e, h0⟩ | ⟨g, cap, cur, e, _⟩
  · exact ⟨none, 0, by rw [e, h0]⟩
  · exact ⟨_, cap, e⟩
theorem KR.key {w0 wr : World} {bx : Nat} {ta : Option Addr} {n tc : Nat} {ks : List ByteArray} (h : KR w0 bx wr (.slice ta n tc) ks) (hn : ks.length = n) : KyF wr ta ks := by
  subst hn
  exact KyF.own h.own rfl
/-- the cells folded so far -/
def RfK (w : World) (l : List Ce) (keep : List Int) (k : Nat) (wr : World) (v : Value) (o : List Ce) : Prop := LK w.heap.size wr v o ∧ Below w.heap.size w wr ∧ o.map Ce.el = foldL ((l.take k).map Ce.el) keep
theorem foldL_sorted (l : List (El (List ByteArray))) (keep : List Int) : (foldL l keep).Pairwise fun y z => cmpL y.1 z.1 < 0 := by
  unfold foldL
  have : ∀ (m o : List (El (List ByteArray))), o.Pairwise (fun y z => cmpL y.1 z.1 < 0) → (m.foldl (fun o x => insF cmpL x o) o).Pairwise fun y z => cmpL y.1 z.1 < 0 := fun m => by
    induction m with
    | nil => intro o h; exact h
    | cons x m ih => intro o h; exact ih _ (insF_sorted cmpL_tot x o h)
  exact this _ [] List.Pairwise.nil
theorem foldL_bnd {l : List Ce} {keep : List Int} (hf : ∀ x ∈ l, fullB x.many x.cents = true) : ∀ y ∈ foldL (l.map Ce.el) keep, bndE l.length y := by
  unfold foldL
  have := fold_bnd ((l.map Ce.el).map (prE keep)) [] 0 (fun x hx => by
    rw [List.map_map, List.mem_map] at hx
    obtain ⟨y, hy, rfl⟩ := hx
    exact fullB_bnd (x := y.el) (hf y hy)) (by simp)
  simpa using this
theorem foldL_klen {l : List (El (List ByteArray))} {keep : List Int} : ∀ y ∈ foldL l keep, y.1.length = keep.length := by
  unfold foldL
  refine foldl_key (P := fun (ks : List ByteArray) => ks.length = keep.length) _ [] (fun x hx => ?_) (by simp)
  rw [List.mem_map] at hx
  obtain ⟨y, hy, rfl⟩ := hx
  simp [prE]
theorem RfK.facts {w wr : World} {l o : List Ce} {keep : List Int} {k : Nat} {v : Value} (h : RfK w l keep k wr v o) (hk : k ≤ l.length) (hf : ∀ x ∈ l, fullB x.many x.cents = true) :
    ((o.map Ce.el).Pairwise fun y z => cmpL y.1 z.1 < 0) ∧ (∀ y ∈ o, bndE k y.el) ∧ o.length ≤ k ∧ ∀ y ∈ o, y.keys.length = keep.length := by
  obtain ⟨-, -, he⟩ := h
  refine ⟨by rw [he]; exact foldL_sorted _ _, fun y hy => ?_, ?_, fun y hy => ?_⟩
  · have h1 := foldL_bnd (l := l.take k) (keep := keep) (fun x hx => hf x (List.mem_of_mem_take hx)) y.el (by rw [← he]; exact List.mem_map_of_mem hy)
    rw [List.length_take, Nat.min_eq_left hk] at h1
    exact h1
  · have h1 := foldL_len ((l.take k).map Ce.el) keep
    rw [← he, List.length_map, List.length_map, List.length_take, Nat.min_eq_left hk] at h1
    exact h1
  · exact foldL_klen y.el (by rw [← he]; exact List.mem_map_of_mem hy)
theorem foldL_snoc (l : List (El (List ByteArray))) (x : El (List ByteArray)) (keep : List Int) : foldL (l ++ [x]) keep = insF cmpL (prE keep x) (foldL l keep) := by
  unfold foldL
  rw [List.map_append, List.foldl_append]
  rfl
theorem rf_step {l o : List Ce} {keep : List Int} {k : Nat} (hk : k < l.length) (he : o.map Ce.el = foldL ((l.take k).map Ce.el) keep) {x : Ce} (hx : x.el = prE keep l[k].el) {i : Nat} (hi : plF cmpL x.keys (o.map Ce.el) = i) : (rfC o i x).map Ce.el = foldL ((l.take (k + 1)).map Ce.el) keep := by
  rw [rfC_el o x i hi, List.take_succ_eq_append_getElem hk, List.map_append, List.map_cons, List.map_nil, foldL_snoc, ← he, hx]
/-- what stands at the place behind the search, and what becomes of it -/
theorem rf_at {o : List Ce} {i : Nat} {x : Ce} (hi : i ≤ o.length) (hb : fndB o x.keys i = true) : ∃ h : i < o.length, o[i].keys = x.keys ∧ rfC o i x = (o.set i { o[i] with many := o[i].many + x.many }).set i { o[i] with many := o[i].many + x.many, cents := o[i].cents + x.cents } := by
  unfold fndB at hb
  simp only [Bool.and_eq_true, decide_eq_true_eq] at hb
  obtain ⟨h1, h2⟩ := hb
  have e : ∀ d : Ce, o.getD i d = o[i] := fun d => by rw [List.getD_eq_getElem?_getD, List.getElem?_eq_getElem h1]; rfl
  rw [e] at h2
  refine ⟨h1, (cmpL_tot.eq _ _).1 h2, ?_⟩
  unfold rfC
  rw [e, if_pos ⟨h1, h2⟩, List.set_set]
theorem rf_new {o : List Ce} {i : Nat} {x : Ce} (tv : Option Addr) (tc : Nat) (hi : i ≤ o.length) (hb : fndB o x.keys i = false) (hx : x = ⟨tv, tc, x.keys, x.many, x.cents⟩) :
    rfC o i x = ((o.take i ++ (⟨tv, tc, x.keys, 0, 0⟩ : Ce) :: o.drop i).set i ⟨tv, tc, x.keys, 0 + x.many, 0⟩).set i ⟨tv, tc, x.keys, 0 + x.many, 0 + x.cents⟩ := by
  unfold fndB at hb
  have hn : ¬ (i < o.length ∧ cmpL (o.getD i x).keys x.keys = 0) := by
    rintro ⟨h1, h2⟩
    have e : ∀ d : Ce, o.getD i d = o[i] := fun d => by rw [List.getD_eq_getElem?_getD, List.getElem?_eq_getElem h1]; rfl
    rw [e] at h2 hb
    rw [decide_eq_true h1, decide_eq_true h2] at hb
    cases hb
  unfold rfC
  rw [if_neg hn, List.set_set]
  have hl : (o.take i).length = i := by rw [List.length_take]; omega
  rw [List.set_append_right _ _ (by omega), hl, Nat.sub_self]
  simp only [List.set_cons_zero, Int.zero_add]
  rw [← hx]
theorem rf_new2 {o : List Ce} {i : Nat} {x z : Ce} (tv : Option Addr) (tc : Nat) (hi : i ≤ o.length) (hb : fndB o x.keys i = false) (hx : x = ⟨tv, tc, x.keys, x.many, x.cents⟩) (hz : z = ⟨tv, tc, x.keys, 0, 0⟩) :
    rfC o i x = ((o.take i ++ z :: o.drop i).set i { z with many := z.many + x.many }).set i { z with many := z.many + x.many, cents := z.cents + x.cents } := by
  subst hz
  exact rf_new tv tc hi hb hx
end Go.Proofs.YtmhnnbffhciinaaDoor
/- handref1.FoldOf. -/
set_option linter.unusedVariables false
namespace Go.Proofs.YtmhnnbffhciinaaDoor
open Go.RowKit

set_option maxRecDepth 100000 in
set_option maxHeartbeats 16000000 in
theorem FoldOf_any (a : Option Addr) (l : List Ce) (n c : Nat) (ak : Option Addr) (keep : List Int) (m ck : Nat) (w : World) (hn : l.length = n) (hn1 : n ≤ 16) (hI : RAt w a 3 Ce.cells l) (hT : TagsAt Ce.tv Ce.keys w l) (hok : ∀ x ∈ l, x.ok) (hm : keep.length = m) (hm1 : m ≤ 16) (hK : IntsAt w ak keep) (hkb : ∀ z ∈ keep, -100 ≤ z ∧ z ≤ 100) :
    Calls Tryd.prog 9 #[.slice a n c, .slice ak m ck] w (FoldOut w l keep) := by
  obtain ⟨i0, hi, hz0, hz1, hz2⟩ := info_parts infoCe
  obtain ⟨j0, hj, hy0, hy1, hy2⟩ := info_parts infoSt
  have C1 := Lib.hid (CellsFault_any a l n c w hn (by omega) hI hT hok)
  have HN := Lib.hid hn
  have HM := Lib.hid hm
  have HI := Lib.hid hI
  have HT := Lib.hid hT
  have HK := Lib.hid hK
  have HKB := Lib.hid hkb
  have HOK := Lib.hid (fun h => ce_ok (l := l) (by omega) h)
  have HDB := Lib.hid (fun h => dimE_bd (l := l) (by omega) h)
  have HF1 := Lib.hid (fun h0 => fdE_1 (l := l) (keep := keep) (E := ceE l) rfl h0)
  have HF2 := Lib.hid (fun (h : ceE l = 0) (K : Int) hk h0 => fdE_2 (l := l) (keep := keep) (K := K) h hk h0)
  have HF3 := Lib.hid (fun (h : ceE l = 0) (b : Bool) hk hb => fdE_3 (l := l) (keep := keep) (b := b) h hk hb)
  clear hn hI hT hok hm hK hkb
  generalize ceE l = E at *
  go_enter Tryd.func9, Tryd.ntmps9
  go_wp2_with fail
  with_reducible refine C1.out.mono ?_
  rintro e w1 ⟨rfl, b1⟩
  have HB1 := Lib.hid b1
  clear b1 C1
  by_cases hE : E = 0
  · subst hE
    have HOK1 := Lib.hid (HOK.out rfl)
    have HF2' := Lib.hid (HF2.out rfl)
    have HF3' := Lib.hid (HF3.out rfl)
    obtain ⟨hd0, hd6⟩ := HDB.out rfl
    clear HF1 HF2 HF3 HOK HDB
    obtain ⟨d, hd⟩ : ∃ d, dimE l = d := ⟨_, rfl⟩
    rw [hd] at hd0 hd6
    have HD := Lib.hid hd
    clear hd
    go_upto_if 27 with (fail)
    go_cut [7] (fun u wx => u = .int .i64 d ∧ w1 = wx)
    case first =>
      by_cases hn0 : n = 0
      · subst hn0
        have HD2 := Lib.hid (show d = 6 by
          have h1 := HN.out
          have h2 := HD.out
          rw [List.eq_nil_of_length_eq_zero h1] at h2
          exact h2.symm)
        go_wp2_with fail
        go_meet
        exact ⟨by rw [HD2.out], rfl⟩
      · have hn2 : 0 < n := by omega
        have hl0 : 0 < l.length := by have := HN.out; omega
        obtain ⟨p, off, rfl, hp, c0, -, -⟩ := (HI.out.below HB1.out).at3 hl0 (v0 := .slice l[0].tv l[0].keys.length l[0].tc) (v1 := .int .i64 l[0].many) (v2 := .int .i64 l[0].cents) rfl
        simp only [Nat.zero_mul, Nat.add_zero] at c0
        have HD2 := Lib.hid (show (l[0].keys.length : Int) = d by rw [(HOK1.out 0 hl0).1, HD.out])
        generalize l[0].tv = tv at *
        generalize l[0].tc = tc at *
        generalize l[0].keys.length = n0 at *
        go_wp2_with fail
        go_meet
        exact ⟨by rw [HD2.out], rfl⟩
    case rest =>
    obtain ⟨rfl, rfl⟩ := hcut
    obtain ⟨K, hKE⟩ : ∃ K, kpE d keep keep.length 0 = K := ⟨_, rfl⟩
    have HK0 : Hid (kpE d keep (keep.length - 0) 0 = K) := Lib.hid hKE
    rw [HD.out, hKE] at HF2'
    rw [HD.out, hKE] at HF3'
    have HKOK := Lib.hid (fun h : K = 0 => kp_ok (d := d) (keep := keep) (hKE.trans h))
    clear hKE
    go_wp2_with fail
    go_loop [8, 9, 35] (fun _ _ i => ∃ k : Nat, k ≤ m ∧ i = .int .i64 k ∧ Hid (kpE d keep (keep.length - k) k = K)) (fun _ _ i => m - (intOf i).toNat)
    case atStart => exact ⟨0, Nat.zero_le _, rfl, HK0⟩
    case round =>
      obtain ⟨k, hk, rfl, HKK⟩ := hrel
      by_cases hlt : k < m
      · have hkl : k < keep.length := by have := HM.out; omega
        obtain ⟨p, off, rfl, hp, c0⟩ := (HK.out.below HB1.out).at_ hkl
        have hb := HKB.out keep[k] (List.getElem_mem hkl)
        have HS := Lib.hid ((kpE_step d keep k hkl).symm.trans HKK.out)
        rw [List.getD_eq_getElem?_getD, List.getElem?_eq_getElem hkl, Option.getD_some] at HS
        have HPC := Lib.hid (fun (h : k - 1 < keep.length) => (HK.out.below HB1.out).at_ h)
        have HPB := Lib.hid (fun (h : k - 1 < keep.length) => HKB.out keep[k - 1] (List.getElem_mem h))
        have HPD := Lib.hid (fun (h : k - 1 < keep.length) => show keep.getD (k - 1) 0 = keep[k - 1] by rw [List.getD_eq_getElem?_getD, List.getElem?_eq_getElem h, Option.getD_some])
        generalize keep[k] = z at *
        obtain ⟨hb1, hb2⟩ := hb
        by_cases h1 : z < 0
        · have HKV := Lib.hid ((if_pos (.inl h1)).symm.trans HS.out)
          go_wp2_with fail
          go_ret2
          exact FoldOut.no (HF2'.out _ HKV.out.symm (by omega)) (by omega) HB1.out
        · by_cases h2 : d ≤ z
          · have HKV := Lib.hid ((if_pos (.inr h2)).symm.trans HS.out)
            go_wp2_with fail
            go_ret2
            exact FoldOut.no (HF2'.out _ HKV.out.symm (by omega)) (by omega) HB1.out
          · rw [if_neg (show ¬ (z < 0 ∨ d ≤ z) by omega)] at HS
            by_cases hk0 : 0 < k
            · have hkp : k - 1 < keep.length := by omega
              obtain ⟨p', off', ha', hp', c1⟩ := HPC.out hkp
              injection ha' with ha'
              injection ha' with e1 e2
              subst e1 e2
              have hb' := HPB.out hkp
              rw [HPD.out hkp] at HS
              clear HPC HPB HPD
              generalize keep[k - 1] = y at *
              obtain ⟨hb3, hb4⟩ := hb'
              have hk0i : (0 : Int) < (k : Int) := by omega
              by_cases h2 : z ≤ y
              · have HKV := Lib.hid ((if_pos ⟨hk0, h2⟩).symm.trans HS.out)
                go_wp2_with fail
                go_ret2
                exact FoldOut.no (HF2'.out _ HKV.out.symm (by omega)) (by omega) HB1.out
              · have HKV := Lib.hid ((if_neg (fun h => h2 h.2)).symm.trans HS.out)
                go_wp2_with fail
                go_round
                case rel => exact ⟨k + 1, by omega, by go_num, HKV⟩
                case measure => simp [intOf]; omega
            · have HKV := Lib.hid ((if_neg (fun h => hk0 h.1)).symm.trans HS.out)
              clear HPC HPB HPD
              go_wp2_with fail
              go_round
              case rel => exact ⟨k + 1, by omega, by go_num, HKV⟩
              case measure => simp [intOf]; omega
      · obtain rfl : K = 0 := HKK.out.symm.trans (kpE_end d keep k (by have := HM.out; omega))
        obtain rfl : m = k := by omega
        have HKOK1 := Lib.hid (HKOK.out rfl)
        have HF4 := Lib.hid (HF3'.out · rfl)
        clear HKK HKOK HF2' HF3' HK0 HKB
        have HA0 : Hid (RfK w l keep 0 w1 (.slice none 0 0) []) := Lib.hid ⟨LK.nil HB1.out.size, HB1.out, rfl⟩
        have HFL := Lib.hid (show ∀ x ∈ l, fullB x.many x.cents = true from fun x hx => by
          obtain ⟨j, hj, rfl⟩ := List.mem_iff_getElem.1 hx
          exact (HOK1.out j hj).2.2)
        go_wp2_with fail
        clear hlt hk
        go_loopw [10, 12, 13, 15, 16, 17, 61] (fun v _ _ _ _ _ i wr => ∃ (k : Nat) (o : List Ce), k ≤ n ∧ i = .int .i64 k ∧ Hid (RfK w l keep k wr v o)) (fun _ _ _ _ _ _ i _ => n - (intOf i).toNat)
        case atStart => exact ⟨0, [], Nat.zero_le _, rfl, HA0⟩
        case round =>
          obtain ⟨wo, rfl⟩ : ∃ wo : World, wo = wr := ⟨_, rfl⟩
          obtain ⟨k, o, hk, rfl, HA⟩ := hrel
          by_cases hlt : k < n
          · --@all
            have hkl : k < l.length := by have := HN.out; omega
            obtain ⟨p, off, rfl, hp, c0, c1, c2⟩ := (HI.out.below HA.out.2.1).at3 hkl (v0 := .slice l[k].tv l[k].keys.length l[k].tc) (v1 := .int .i64 l[k].many) (v2 := .int .i64 l[k].cents) rfl
            have HTk := Lib.hid (fun w' (hb : Below w.heap.size w w') => (HT.out.below hb) l[k] (List.getElem_mem hkl))
            have HKL := Lib.hid (show (l[k].keys.length : Int) = d by rw [(HOK1.out k hkl).1, HD.out])
            have hk6 := (HOK1.out k hkl).2.1
            have hfb := HFL.out l[k] (List.getElem_mem hkl)
            unfold fullB at hfb
            simp only [Bool.and_eq_true, decide_eq_true_eq] at hfb
            obtain ⟨⟨fb1, fb2⟩, fb3, fb4⟩ := hfb
            have HRS := Lib.hid (fun (x : Ce) (hx : x.el = prE keep l[k].el) (i : Nat) (hi : plF cmpL x.keys (o.map Ce.el) = i) => rf_step (keep := keep) hkl HA.out.2.2 hx hi)
            generalize l[k] = x at *
            obtain ⟨tv, tc, ks, many, cents⟩ := x
            simp only at c0 c1 c2 HTk HKL hk6 fb1 fb2 fb3 fb4
            obtain ⟨nk, hnk⟩ : ∃ z, ks.length = z := ⟨_, rfl⟩
            rw [hnk] at c0 HKL hk6
            have HNK := Lib.hid hnk
            clear hnk
            have HAB := Lib.hid HA.out.2.1
            have HK0 : Hid (KR wo (wo.heap.size + 1) (wo.alloc (.cells #[.slice tv nk tc, .int .i64 many, .int .i64 cents] 44)) (.slice none 0 0) (kept keep ks 0)) := Lib.hid (KR.new ((Below.refl _ _).alloc (Nat.le_refl _) _) (by omega) (by simp))
            have HX0 := Lib.hid (XB.new wo [.slice tv nk tc, .int .i64 many, .int .i64 cents] 44)
            simp only [List.toArray] at HX0
            go_wp2_with fail
            generalize wo.alloc (.cells #[.slice tv nk tc, .int .i64 many, .int .i64 cents] 44) = wa at *
            clear c0 c1 c2
            go_loopw [13, 15, 67] (fun v _ i wx => ∃ (j : Nat), j ≤ m ∧ i = .int .i64 j ∧ Hid (KR wo (wo.heap.size + 1) wx v (kept keep ks j)) ∧ Hid (XB wx wo.heap.size [.slice tv nk tc, .int .i64 many, .int .i64 cents])) (fun _ _ i _ => m - (intOf i).toNat)
            case atStart => exact ⟨0, Nat.zero_le _, rfl, HK0, HX0⟩
            case round =>
              obtain ⟨j, hjm, rfl, HKX, HX⟩ := hrel
              by_cases hlj : j < m
              · --@keys
                have hjl : j < keep.length := by have := HM.out; omega
                have HBX := Lib.hid (HAB.out.trans (HKX.out.bel.mono HAB.out.size))
                obtain ⟨pk, offk, rfl, hpk, ck0⟩ := (HK.out.below HBX.out).at_ hjl
                obtain ⟨hz0', hz1'⟩ := HKOK1.out j hjl
                obtain ⟨zi, hzi⟩ := Int.eq_ofNat_of_zero_le hz0'
                have hzk : zi < ks.length := by have := HKL.out; have := HNK.out; omega
                have HKS := Lib.hid (kept_succ keep ks j hjl (by rw [hzi]; simpa using hzk))
                have HSS := Lib.hid (show ks[keep[j].toNat]'(by rw [hzi]; simpa using hzk) = ks[zi] by simp [hzi])
                have hzn : zi < nk := by have := HNK.out; omega
                obtain ⟨ps, offs, hpt, hps, cs0⟩ := (HTk.out _ HBX.out) zi hzk
                have hpt0 := hpt
                rw [hpt] at HX
                have HKL2 := Lib.hid (kept_len keep ks j (by omega))
                rw [HSS.out] at HKS
                rw [hzi] at ck0
                generalize ks[zi] = s at *
                clear hzi hz0' hz1' HSS
                obtain ⟨x0, x1, x2⟩ := HX.out.at3
                have hql0 := HX.out.1
                have own9 := HKX.out.own
                rw [HKL2.out] at own9
                have hsz9 := HKX.out.sz
                have HPT := Lib.hid hpt
                clear hk6 hpt hpt0
                go_wp2_with (at_builtin; refine wpList_append_own _ rfl _ _ 41 rfl (wo.heap.size + 1) 9 j0 _ 1 16 Tryd.underlying41 hj hy0 hy1 hy2 rfl (by decide) _ _ _ rfl (own9.alloc _) ⟨wr.heap.size, 0, none⟩ 1 1 [.string s] rfl rfl ?k1 ?k2 ?k3 ?k4 ?k5 ?_)
                case k1 => exact cells_new wr #[.string s] 9
                case k2 => simp [Value.oneCell']
                case k3 => unfold maxLen; omega
                case k4 => omega
                case k5 => simp; omega
                intro v2 w8 own8 hgrow8 hne8
                have hAA := HKX.out.app HKL2.out own8 hgrow8
                have HK9 := Lib.hid (show KR wo (wo.heap.size + 1) w8 v2 (kept keep ks (j + 1)) by rw [HKS.out]; exact hAA.1)
                have HX9 := Lib.hid (hAA.2 _ _ (by omega) HX.out)
                clear hAA own8 hgrow8 hne8 HKX HX own9 HKS HKL2
                go_wp2_with fail
                go_roundw
                case rel => exact ⟨j + 1, by omega, by go_num, HK9, by rw [HPT.out]; exact HX9⟩
                case measure => simp [intOf]; omega
                --@end
              · obtain rfl : m = j := by omega
                obtain ⟨ta, tcx, rfl⟩ := HKX.out.form
                have HKL2 := Lib.hid (kept_len keep ks m (by have := HM.out; omega))
                rw [HKL2.out] at HKX ⊢
                obtain ⟨va, vc, rfl, -, -, -⟩ := HA.out.1.rat
                obtain ⟨no, hno⟩ : ∃ z, o.length = z := ⟨_, rfl⟩
                rw [hno] at HA ⊢
                have HNO := Lib.hid hno
                clear hno
                have HXE := Lib.hid (show (⟨ta, tcx, kept keep ks m, many, cents⟩ : Ce).el = prE keep (⟨tv, tc, ks, many, cents⟩ : Ce).el by
                  rw [show kept keep ks m = kept keep ks keep.length by rw [HM.out]]
                  exact kept_all keep ⟨tv, tc, ks, many, cents⟩ ta tcx)
                have HL9 := Lib.hid (HA.out.1.below HKX.out.bel)
                have HB9 := Lib.hid (HAB.out.trans (HKX.out.bel.mono HAB.out.size))
                have HKY := Lib.hid (HKX.out.key HKL2.out)
                obtain ⟨hso, hbo, hlo, hko⟩ := HA.out.facts (by omega) HFL.out
                have hno16 : no ≤ 16 := by have := HNO.out; omega
                have HBO := Lib.hid hbo
                have hbw := HAB.out.size
                have hgo : ∀ g, (Value.slice va no vc).ownBlock = some g → g < wo.heap.size := fun g hg => (HA.out.1.own.lt g hg).2
                have HGO := Lib.hid hgo
                have CS := Lib.hid (search_ce va o no vc ta (kept keep ks m) m tcx wr HNO.out (by omega) (by
                  obtain ⟨a', c', e, hr, -, -⟩ := HL9.out.rat
                  injection e with e1 e2 e3
                  subst e1
                  exact hr) (fun x hx => (HL9.out.ky x hx).strs) (fun x hx => by rw [hko x hx]; have := HM.out; omega) HKY.out.strs HKL2.out (by omega) hso)
                clear hso hbo hlo hko hgo HKX
                go_wp2_with fail
                with_reducible refine CS.out.mono ?_
                rintro e w2 ⟨i, hpi, hio, rfl, b2⟩
                have HPI := Lib.hid hpi
                rw [HNO.out] at hio
                have HL2 := Lib.hid (HL9.out.below b2)
                have HB2 := Lib.hid (HB9.out.trans (b2.mono HB9.out.size))
                have HX2 := Lib.hid (HX.out.below b2)
                have HK2 := Lib.hid (HKY.out.below b2)
                have HEF := Lib.hid (HRS.out ⟨ta, tcx, kept keep ks m, many, cents⟩ HXE.out i hpi)
                have hwz : wo.heap.size < w2.heap.size := HX2.out.1
                clear hpi HL9 HB9 HX HKY b2 CS HRS HXE
                obtain ⟨b, hb⟩ : ∃ b, fndB o (kept keep ks m) i = b := ⟨_, rfl⟩
                rw [hb]
                have HFB := Lib.hid hb
                clear hb
                cases b with
                | true =>
                  obtain ⟨hil, hyk, hrf⟩ := rf_at (x := ⟨ta, tcx, kept keep ks m, many, cents⟩) (by rw [HNO.out]; exact hio) HFB.out
                  have hyb := HBO.out o[i] (List.getElem_mem hil)
                  simp only [bndE, Ce.el] at hyb
                  obtain ⟨yb1, yb2, yb3, yb4⟩ := hyb
                  have HMC := Lib.hid hrf
                  clear hyk hrf
                  obtain ⟨y, hy⟩ : ∃ y, o[i] = y := ⟨_, rfl⟩
                  have HYY := Lib.hid hy
                  rw [hy] at HMC yb1 yb2 yb3 yb4
                  clear hy
                  obtain ⟨ytv, ytc, yks, ym, yc⟩ := y
                  simp only at HMC yb1 yb2 yb3 yb4
                  rcases HL2.out.own.2 with ⟨e, h0⟩ | ⟨g, cap, cur, e, hbg, hg, hnc, hcm, hcs, htk⟩
                  · omega
                  injection e with e1 e2 e3
                  subst e1 e3
                  clear e2 hg hnc hcm hcs htk
                  have hgx : g ≠ wo.heap.size := by have := HGO.out g rfl; omega
                  have HPO := HNO
                  have hpl := hil
                  have hk16 : k < 16 := by omega
                  have HLq := HL2
                  have HBq := HB2
                  have HXq := HX2
                  clear HL2 HB2 HX2
                  generalize w2 = wq at *
                  have hgq : g < wq.heap.size := (HLq.out.own.lt g (by simp [Value.ownBlock])).2
                  obtain ⟨x0, x1, x2⟩ := HXq.out.at3
                  have hq := HXq.out.1
                  have hgm : w.heap.size ≤ g := (HLq.out.own.lt g (by simp [Value.ownBlock])).1
                  have d1 := HLq.out.cell (j := i) (i := 1) HPO.out hpl (by omega) (u := .int .i64 ym) (by rw [HYY.out]; rfl)
                  have f1 := HLq.out.free HPO.out (i * 3 + 1)
                  have HLa := Lib.hid (show LK w.heap.size (wq.setCell ⟨g, i * 3 + 1, none⟩ (.int .i64 (ym + many))).drew (.slice (some ⟨g, 0, none⟩) no vc) (o.set i ⟨ytv, ytc, yks, ym + many, yc⟩) from (HLq.out.put (j := i) (i := 1) (u := .int .i64 (ym + many)) (x' := ⟨ytv, ytc, yks, ym + many, yc⟩) HPO.out hpl (by omega) (by rw [HYY.out]; rfl) (by
                    have h := HLq.out.ky o[i] (List.getElem_mem hpl)
                    rw [HYY.out] at h
                    exact h)).below (Below.refl _ _).drew)
                  have HBa := Lib.hid ((HBq.out.grown (setCell_grown wq g (i * 3 + 1) (.int .i64 (ym + many))) HBq.out.size (fun q hq => by have : g = q := Option.some.inj hq; omega)).drew)
                  have HXa := Lib.hid (show XB (wq.setCell ⟨g, i * 3 + 1, none⟩ (.int .i64 (ym + many))).drew _ _ from (show XB (wq.setCell ⟨g, i * 3 + 1, none⟩ (.int .i64 (ym + many))) _ _ from HXq.out.grown (setCell_grown wq g (i * 3 + 1) (.int .i64 (ym + many))) (by simpa using hgx)))
                  have hpp : i < no := by have := HPO.out; omega
                  go_wp2_with fail
                  go_region
                  generalize (wq.setCell ⟨g, i * 3 + 1, none⟩ (.int .i64 (ym + many))).drew = wa2 at *
                  clear HLq HBq HXq x0 x1 x2 hq d1 f1 hgq
                  have hgq : g < wa2.heap.size := (HLa.out.own.lt g (by simp [Value.ownBlock])).2
                  obtain ⟨x0, x1, x2⟩ := HXa.out.at3
                  have hq := HXa.out.1
                  have hpl2 : i < (o.set i ⟨ytv, ytc, yks, ym + many, yc⟩).length := by rw [List.length_set]; exact hpl
                  have HYa := Lib.hid (show (o.set i ⟨ytv, ytc, yks, ym + many, yc⟩)[i] = ⟨ytv, ytc, yks, ym + many, yc⟩ from List.getElem_set_self _)
                  have HPO2 := Lib.hid (show (o.set i ⟨ytv, ytc, yks, ym + many, yc⟩).length = no by rw [List.length_set]; exact HPO.out)
                  have d2 := HLa.out.cell (j := i) (i := 2) HPO2.out hpl2 (by omega) (u := .int .i64 yc) (by rw [HYa.out]; rfl)
                  have f2 := HLa.out.free HPO2.out (i * 3 + 2)
                  have HLb := Lib.hid (show LK w.heap.size (wa2.setCell ⟨g, i * 3 + 2, none⟩ (.int .i64 (yc + cents))).drew (.slice (some ⟨g, 0, none⟩) no vc) ((o.set i ⟨ytv, ytc, yks, ym + many, yc⟩).set i ⟨ytv, ytc, yks, ym + many, yc + cents⟩) from (HLa.out.put (j := i) (i := 2) (u := .int .i64 (yc + cents)) (x' := ⟨ytv, ytc, yks, ym + many, yc + cents⟩) HPO2.out hpl2 (by omega) (by rw [HYa.out]; rfl) (by
                    have h := HLa.out.ky _ (List.getElem_mem hpl2)
                    rw [HYa.out] at h
                    exact h)).below (Below.refl _ _).drew)
                  have HBb := Lib.hid ((HBa.out.grown (setCell_grown wa2 g (i * 3 + 2) (.int .i64 (yc + cents))) HBa.out.size (fun q hq => by have : g = q := Option.some.inj hq; omega)).drew)
                  go_wp2_with fail
                  go_region
                  generalize (wa2.setCell ⟨g, i * 3 + 2, none⟩ (.int .i64 (yc + cents))).drew = wb at *
                  have HR := Lib.hid (show RfK w l keep (k + 1) wb (.slice (some ⟨g, 0, none⟩) no vc) (rfC o i ⟨ta, tcx, kept keep ks m, many, cents⟩) from ⟨by rw [HMC.out]; exact HLb.out, HBb.out, HEF.out⟩)
                  clear HLa HBa HXa x0 x1 x2 hq d2 f2 hgq HLb HBb HEF HMC
                  go_wp2_with fail
                  go_roundw
                  case rel => exact ⟨k + 1, _, by omega, by go_num, HR⟩
                  case measure => simp [intOf]; omega
                | false =>
                  have hil : i ≤ o.length := by rw [HNO.out]; exact hio
                  have HL3 := Lib.hid (HL2.out.alloc (.cells #[.slice ta m tcx, .int .i64 0, .int .i64 0] 44))
                  have HK3 := Lib.hid (HK2.out.alloc (.cells #[.slice ta m tcx, .int .i64 0, .int .i64 0] 44))
                  have HX3 := Lib.hid (HX2.out.alloc (.cells #[.slice ta m tcx, .int .i64 0, .int .i64 0] 44))
                  have HB3 := Lib.hid (HB2.out.alloc HB2.out.size (.cells #[.slice ta m tcx, .int .i64 0, .int .i64 0] 44))
                  have CI := Lib.hid (insert_ce w.heap.size _ va no vc i w2.heap.size o ⟨ta, tcx, kept keep ks m, 0, 0⟩ HL3.out HNO.out hno16 hio (by
                    simp only [Ce.cells, HKL2.out]
                    exact heap_alloc_new w2 _) HK3.out (fun g hg e => by have := HGO.out g hg; omega))
                  clear HL2 HK2 HX2 HB2
                  go_wp2_with fail
                  with_reducible refine CI.out.mono ?_
                  rintro e w4 ⟨g, P, cap, rfl, hpn, hL4, hg4, hat⟩
                  have HLq := Lib.hid hL4
                  have HPO := Lib.hid hpn
                  have hgx : g ≠ wo.heap.size := by
                    rcases hat with e | e
                    · have := HGO.out g e; omega
                    · simp at e; omega
                  have HBq := Lib.hid (HB3.out.grown hg4 HB3.out.size (fun q hq => (HL3.out.own.lt q hq).1))
                  have HXq := Lib.hid (HX3.out.grown hg4 (fun e => by have := HGO.out _ e; omega))
                  clear hL4 hg4 hat HL3 HK3 HX3 HB3 CI hpn
                  obtain ⟨z, hz⟩ : ∃ z, (⟨ta, tcx, kept keep ks m, 0, 0⟩ : Ce) = z := ⟨_, rfl⟩
                  have hz1 : z.many = 0 := by rw [← hz]
                  have hz2 : z.cents = 0 := by rw [← hz]
                  rw [hz] at HLq
                  have HPO' := Lib.hid (HPO.out)
                  rw [hz] at HPO'
                  have HYQ := Lib.hid (show (o.take i ++ z :: o.drop i)[i]? = some z by
                    rw [List.getElem?_append_right (by rw [List.length_take]; omega), List.length_take, Nat.min_eq_left hil, Nat.sub_self]
                    rfl)
                  have hpl' : i < (o.take i ++ z :: o.drop i).length := by simp; omega
                  have HMC := Lib.hid (rf_new2 (x := ⟨ta, tcx, kept keep ks m, many, cents⟩) ta tcx hil HFB.out rfl hz.symm)
                  clear HPO hz
                  have HPO := HPO'
                  have hpl := hpl'
                  clear HPO' hpl'
                  generalize o.take i ++ z :: o.drop i = O at *
                  have HYY := Lib.hid (show O[i] = z by
                    have h := HYQ.out
                    rw [List.getElem?_eq_getElem hpl] at h
                    exact Option.some.inj h)
                  clear HYQ
                  obtain ⟨ytv, ytc, yks, ym, yc⟩ := z
                  simp only at hz1 hz2 HMC
                  have yb1 : 0 ≤ ym := by omega
                  have yb2 : ym ≤ 0 := by omega
                  have yb3 : 0 ≤ yc := by omega
                  have yb4 : yc ≤ 0 := by omega
                  have hk16 : k < 16 := by omega
                  clear hz1 hz2
                  generalize w4 = wq at *
                  have hgq : g < wq.heap.size := (HLq.out.own.lt g (by simp [Value.ownBlock])).2
                  obtain ⟨x0, x1, x2⟩ := HXq.out.at3
                  have hq := HXq.out.1
                  have hgm : w.heap.size ≤ g := (HLq.out.own.lt g (by simp [Value.ownBlock])).1
                  have d1 := HLq.out.cell (j := i) (i := 1) HPO.out hpl (by omega) (u := .int .i64 ym) (by rw [HYY.out]; rfl)
                  have f1 := HLq.out.free HPO.out (i * 3 + 1)
                  have HLa := Lib.hid (show LK w.heap.size (wq.setCell ⟨g, i * 3 + 1, none⟩ (.int .i64 (ym + many))).drew (.slice (some ⟨g, 0, none⟩) P cap) (O.set i ⟨ytv, ytc, yks, ym + many, yc⟩) from (HLq.out.put (j := i) (i := 1) (u := .int .i64 (ym + many)) (x' := ⟨ytv, ytc, yks, ym + many, yc⟩) HPO.out hpl (by omega) (by rw [HYY.out]; rfl) (by
                    have h := HLq.out.ky O[i] (List.getElem_mem hpl)
                    rw [HYY.out] at h
                    exact h)).below (Below.refl _ _).drew)
                  have HBa := Lib.hid ((HBq.out.grown (setCell_grown wq g (i * 3 + 1) (.int .i64 (ym + many))) HBq.out.size (fun q hq => by have : g = q := Option.some.inj hq; omega)).drew)
                  have HXa := Lib.hid (show XB (wq.setCell ⟨g, i * 3 + 1, none⟩ (.int .i64 (ym + many))).drew _ _ from (show XB (wq.setCell ⟨g, i * 3 + 1, none⟩ (.int .i64 (ym + many))) _ _ from HXq.out.grown (setCell_grown wq g (i * 3 + 1) (.int .i64 (ym + many))) (by simpa using hgx)))
                  have hpp : i < P := by have := HPO.out; omega
                  go_wp2_with fail
                  go_region
                  generalize (wq.setCell ⟨g, i * 3 + 1, none⟩ (.int .i64 (ym + many))).drew = wa2 at *
                  clear HLq HBq HXq x0 x1 x2 hq d1 f1 hgq
                  have hgq : g < wa2.heap.size := (HLa.out.own.lt g (by simp [Value.ownBlock])).2
                  obtain ⟨x0, x1, x2⟩ := HXa.out.at3
                  have hq := HXa.out.1
                  have hpl2 : i < (O.set i ⟨ytv, ytc, yks, ym + many, yc⟩).length := by rw [List.length_set]; exact hpl
                  have HYa := Lib.hid (show (O.set i ⟨ytv, ytc, yks, ym + many, yc⟩)[i] = ⟨ytv, ytc, yks, ym + many, yc⟩ from List.getElem_set_self _)
                  have HPO2 := Lib.hid (show (O.set i ⟨ytv, ytc, yks, ym + many, yc⟩).length = P by rw [List.length_set]; exact HPO.out)
                  have d2 := HLa.out.cell (j := i) (i := 2) HPO2.out hpl2 (by omega) (u := .int .i64 yc) (by rw [HYa.out]; rfl)
                  have f2 := HLa.out.free HPO2.out (i * 3 + 2)
                  have HLb := Lib.hid (show LK w.heap.size (wa2.setCell ⟨g, i * 3 + 2, none⟩ (.int .i64 (yc + cents))).drew (.slice (some ⟨g, 0, none⟩) P cap) ((O.set i ⟨ytv, ytc, yks, ym + many, yc⟩).set i ⟨ytv, ytc, yks, ym + many, yc + cents⟩) from (HLa.out.put (j := i) (i := 2) (u := .int .i64 (yc + cents)) (x' := ⟨ytv, ytc, yks, ym + many, yc + cents⟩) HPO2.out hpl2 (by omega) (by rw [HYa.out]; rfl) (by
                    have h := HLa.out.ky _ (List.getElem_mem hpl2)
                    rw [HYa.out] at h
                    exact h)).below (Below.refl _ _).drew)
                  have HBb := Lib.hid ((HBa.out.grown (setCell_grown wa2 g (i * 3 + 2) (.int .i64 (yc + cents))) HBa.out.size (fun q hq => by have : g = q := Option.some.inj hq; omega)).drew)
                  go_wp2_with fail
                  go_region
                  generalize (wa2.setCell ⟨g, i * 3 + 2, none⟩ (.int .i64 (yc + cents))).drew = wb at *
                  have HR := Lib.hid (show RfK w l keep (k + 1) wb (.slice (some ⟨g, 0, none⟩) P cap) (rfC o i ⟨ta, tcx, kept keep ks m, many, cents⟩) from ⟨by rw [HMC.out]; exact HLb.out, HBb.out, HEF.out⟩)
                  clear HLa HBa HXa x0 x1 x2 hq d2 f2 hgq HLb HBb HEF HMC
                  go_wp2_with fail
                  go_roundw
                  case rel => exact ⟨k + 1, _, by omega, by go_num, HR⟩
                  case measure => simp [intOf]; omega
            --@end
          · obtain rfl : n = k := by omega
            obtain ⟨va, vc, rfl, hro, -, -⟩ := HA.out.1.rat
            obtain ⟨hso, hbo, hlo, hko⟩ := HA.out.facts (by have := HN.out; omega) HFL.out
            have HEL := Lib.hid (show o.map Ce.el = foldL (l.map Ce.el) keep by have h := HA.out.2.2; rw [List.take_of_length_le (by have := HN.out; omega)] at h; exact h)
            obtain ⟨no, hno⟩ : ∃ z, o.length = z := ⟨_, rfl⟩
            rw [hno] at hlo ⊢
            have HNO := Lib.hid hno
            have HRO := Lib.hid hro
            have HTO := Lib.hid (show TagsAt Ce.tv Ce.keys wo o from fun x hx => (HA.out.1.ky x hx).strs)
            have HBO := Lib.hid HA.out.2.1
            have HBD := Lib.hid hbo
            have HFE := Lib.hid (fun b hb => HF4.out b (by rw [← HEL.out, ← badC_el]; exact hb))
            clear hno hro hso hbo hko HA HA0 HI HT HK HF4
            go_wp2_with fail
            go_loopw [19, 117] (fun _ i wr => ∃ k : Nat, k ≤ no ∧ i = .int .i64 k ∧ Below wo.heap.size wo wr ∧ Hid (badC (o.take k) = false)) (fun _ i _ => no - (intOf i).toNat)
            case atStart => exact ⟨0, Nat.zero_le _, rfl, Below.refl _ _, Lib.hid rfl⟩
            case round =>
              obtain ⟨k, hk, rfl, hB, HH⟩ := hrel
              by_cases hlk : k < no
              · have hkl : k < o.length := by have := HNO.out; omega
                obtain ⟨p, off, rfl, hp, c0, c1, c2⟩ := (HRO.out.below hB).at3 hkl (v0 := .slice o[k].tv o[k].keys.length o[k].tc) (v1 := .int .i64 o[k].many) (v2 := .int .i64 o[k].cents) rfl
                have hyb := HBD.out o[k] (List.getElem_mem hkl)
                simp only [bndE, Ce.el] at hyb
                obtain ⟨yb1, -, -, -⟩ := hyb
                have HHT := Lib.hid (badC_hit o k hkl)
                have HTT := Lib.hid (badC_snoc o k hkl)
                have HB2 := Lib.hid (hB.alloc hB.size (.cells #[.slice o[k].tv o[k].keys.length o[k].tc, .int .i64 o[k].many, .int .i64 o[k].cents] 44))
                have HBW := Lib.hid (HBO.out.trans (HB2.out.mono HBO.out.size))
                generalize o[k] = x at *
                obtain ⟨tv, tc, ks, many, cents⟩ := x
                simp only at c0 c1 c2 yb1 HHT HTT HB2 HBW
                by_cases m1 : 1000000 < many
                · have HFV := Lib.hid (HFE.out true (HHT.out (fullB_no (.inr (.inl m1)))))
                  go_wp2_with fail
                  go_ret2
                  exact FoldOut.no HFV.out (by decide) HBW.out
                · by_cases m2 : cents < -1000000000000
                  · have HFV := Lib.hid (HFE.out true (HHT.out (fullB_no (.inr (.inr (.inl m2))))))
                    go_wp2_with fail
                    go_ret2
                    exact FoldOut.no HFV.out (by decide) HBW.out
                  · by_cases m3 : 1000000000000 < cents
                    · have HFV := Lib.hid (HFE.out true (HHT.out (fullB_no (.inr (.inr (.inr m3))))))
                      go_wp2_with fail
                      go_ret2
                      exact FoldOut.no HFV.out (by decide) HBW.out
                    · have HN1 := Lib.hid (show badC (o.take (k + 1)) = false by rw [HTT.out, HH.out, fullB_yes (by omega) m1 m2 m3]; rfl)
                      go_wp2_with fail
                      go_roundw
                      case rel => exact ⟨k + 1, by omega, by go_num, HB2.out, HN1⟩
                      case measure => simp [intOf]; omega
              · obtain rfl : no = k := by omega
                have HFV := Lib.hid (HFE.out false (by rw [← badC_all, HNO.out]; exact HH.out))
                have HR9 := Lib.hid (HRO.out.below hB)
                have HT9 := Lib.hid (HTO.out.below hB)
                have HB9 := Lib.hid (HBO.out.trans (hB.mono HBO.out.size))
                go_wp2_with fail
                go_ret2
                exact FoldOut.yes HFV.out HNO.out HR9.out HT9.out HB9.out HEL.out
  · have HFE := Lib.hid (HF1.out hE)
    have hne : (E != 0) = true := by simpa using hE
    have HE0 := Lib.hid hE
    clear hE
    go_wp2_with fail
    go_ret2
    exact FoldOut.no HFE.out HE0.out HB1.out
end Go.Proofs.YtmhnnbffhciinaaDoor
