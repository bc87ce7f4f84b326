/- measure.Fold. -/
import Derived.Test.YtmhnnbffhciinaaDoorCheckCells
import Derived.Test.YtmhnnbffhciinaaDoorSortCe
import Derived.Test.YtmhnnbffhciinaaDoorSameCe
import Derived.Test.YtmhnnbffhciinaaDoorRows3
import Derived.Deep.RegionHeld3
import Derived.Deep.RegionLaw
import Derived.Deep.DeepCutAuto
import Derived.Deep.CutBlock
set_option linter.unusedVariables false
namespace Go.Proofs.YtmhnnbffhciinaaDoor
open Go.RowKit

theorem setCell_grown (w : World) (p i : Nat) (u : Value) : w.grownBy (w.setCell ⟨p, i, none⟩ u) (some p) := ⟨rfl, rfl, rfl, by simp [World.setCell], fun k _ hne => Below.heap_setCell w _ _ k (by rintro rfl; exact hne rfl)⟩
/-- a cell of one's own whose keys grow -/
structure KX (w0 : World) (q bx : Nat) (many cents : Int) (wr : World) (v : Value) (ks : List ByteArray) : Prop where
  ob : OB wr q [v, .int .i64 many, .int .i64 cents] 44
  own : wr.ownsRow bx 9 1 v ks.length (ks.map Value.string)
  hq : q < bx
  hw : w0.heap.size ≤ q
  sz : bx ≤ wr.heap.size
  bel : Below w0.heap.size w0 wr
theorem KX.app {w0 wr w8 : World} {q bx g cap n : Nat} {many cents : Int} {v : Value} {ks : List ByteArray} {s : ByteArray} {o : Obj} (h : KX w0 q bx many cents wr v ks) (hn : ks.length = n)
    (hown : w8.ownsRow bx 9 1 (.slice (some ⟨g, 0, none⟩) (n + 1) cap) (n + 1) (ks.map Value.string ++ [.string s])) (hgrow : (wr.drew.alloc o).grownBy w8 v.ownBlock) :
    w8.cell? ⟨q, 0, none⟩ = some v ∧ w8.frozen? ⟨q, 0, none⟩ = false ∧ KX w0 q bx many cents (w8.setCell ⟨q, 0, none⟩ (.slice (some ⟨g, 0, none⟩) (n + 1) cap)) (.slice (some ⟨g, 0, none⟩) (n + 1) cap) (ks ++ [s]) ∧
    (∀ p cs, p < bx → p ≠ q → XB wr p cs → XB (w8.setCell ⟨q, 0, none⟩ (.slice (some ⟨g, 0, none⟩) (n + 1) cap)) p cs) := by
  subst hn
  have hrow := fun k hk => (h.own.lt k hk).1
  have hz := hgrow.size
  simp at hz
  have hne : ∀ p, p < bx → v.ownBlock ≠ some p := fun p hp e => by have := hrow p e; omega
  have ob1 : OB w8 q [v, .int .i64 many, .int .i64 cents] 44 := (show OB wr.drew q _ _ from h.ob).alloc o |>.grown hgrow (hne q h.hq)
  have hset := setCell_grown w8 q 0 (.slice (some ⟨g, 0, none⟩) (ks.length + 1) cap)
  have hgb := (hown.lt g (by simp [Value.ownBlock])).1
  have hq := h.hq
  have hsz := h.sz
  refine ⟨ob1.cell 0 _ rfl, ob1.free 0, ⟨ob1.put 0 _ rfl, ?_, h.hq, h.hw, by have := hset.size; omega, ?_⟩, fun p cs hp hpq hx => ?_⟩
  · rw [List.length_append, List.length_singleton, List.map_append, List.map_cons, List.map_nil]
    exact hown.kept hset (.inr (by simp [Value.ownBlock]; omega))
  · have b1 : Below w0.heap.size w0 (wr.drew.alloc o) := h.bel.drew.alloc (by have := h.hw; have := h.sz; show w0.heap.size ≤ wr.heap.size; omega) o
    have b2 := b1.grown hgrow (by have := h.hw; have := h.sz; simp; omega) (fun k hk => by have := hrow k hk; have := h.hw; omega)
    exact b2.grown hset (by have := h.hw; omega) (fun k hk => by have : q = k := Option.some.inj hk; have := h.hw; omega)
  · exact (((show XB wr.drew p cs from hx).alloc o).grown hgrow (hne p hp)).grown hset (by simpa using fun e => hpq e.symm)
theorem KX.key {w0 wr : World} {q bx : Nat} {many cents : Int} {ta : Option Addr} {n tc : Nat} {ks : List ByteArray} (h : KX w0 q bx many cents wr (.slice ta n tc) ks) (hn : ks.length = n) : KyF wr ta ks := by
  subst hn
  exact KyF.own h.own rfl
theorem KX.form {w0 wr : World} {q bx : Nat} {many cents : Int} {v : Value} {ks : List ByteArray} (h : KX w0 q bx many cents wr v ks) : ∃ ta tc, v = .slice ta ks.length tc := by
  rcases h.own.2 with ⟨e, h0⟩ | ⟨g, cap, cur, e, _⟩
  · exact ⟨none, 0, by rw [e, h0]⟩
  · exact ⟨_, cap, e⟩

theorem KX.new (wr : World) (v0 : Value) (many cents : Int) : KX wr (wr.heap.size + 1) (wr.heap.size + 2) many cents ((wr.alloc (.cells #[v0, .int .i64 many, .int .i64 cents] 44)).alloc (.cells #[.slice none 0 0, .int .i64 many, .int .i64 cents] 44)) (.slice none 0 0) [] := by
  have h := OB.new (wr.alloc (.cells #[v0, .int .i64 many, .int .i64 cents] 44)) [.slice none 0 0, .int .i64 many, .int .i64 cents] 44
  refine ⟨?_, World.ownsRow_nil _ _ _ _, by omega, by omega, by simp, ((Below.refl _ _).alloc (Nat.le_refl _) _).alloc (by simp) _⟩
  simpa using h
theorem XB.new2 (wr : World) (v0 v1 v2 : Value) (o : Obj) : XB ((wr.alloc (.cells #[v0, v1, v2] 44)).alloc o) wr.heap.size [v0, v1, v2] := (XB.new wr [v0, v1, v2] 44).alloc o
theorem all_bnd {l all : List Ce} {keep : List Int} (h : all.map Ce.el = (l.map Ce.el).map (prE keep)) (hf : ∀ x ∈ l, fullB x.many x.cents = true) : ∀ x ∈ all, bndE 1 x.el ∧ x.keys.length = keep.length := by
  intro x hx
  have : x.el ∈ (l.map Ce.el).map (prE keep) := by rw [← h]; exact List.mem_map_of_mem hx
  rw [List.map_map, List.mem_map] at this
  obtain ⟨y, hy, e⟩ := this
  have hb := fullB_bnd (x := y.el) (hf y hy)
  rw [← e]
  refine ⟨hb, ?_⟩
  have e1 : x.keys = (prE keep y.el).1 := by
    show x.el.1 = _
    rw [← e]
    rfl
  rw [e1]
  simp [prE]
theorem mgC_nil (x : Ce) : mgC [] x = [x] := rfl
theorem mgC_at {o : List Ce} {p : Nat} (hp : o.length = p + 1) : o = o.dropLast ++ [o[p]'(by omega)] ∧ o.getLast? = some (o[p]'(by omega)) := by
  have hne : o ≠ [] := fun e => by rw [e] at hp; simp at hp
  have hl : o.getLast hne = o[p]'(by omega) := by
    rw [List.getLast_eq_getElem]
    simp [hp]
  refine ⟨?_, ?_⟩
  · rw [← hl, List.dropLast_concat_getLast]
  · rw [List.getLast?_eq_some_getLast hne, hl]
theorem mgC_ne {o : List Ce} {x : Ce} {p : Nat} (hp : o.length = p + 1) (h : ¬ (o[p]'(by omega)).keys = x.keys) : mgC o x = o ++ [x] := by
  unfold mgC
  rw [(mgC_at hp).2]
  simp only
  rw [if_neg h]
theorem mgC_eq {o : List Ce} {x : Ce} {p : Nat} (hp : o.length = p + 1) (h : (o[p]'(by omega)).keys = x.keys) : mgC o x = (o.set p { o[p]'(by omega) with many := (o[p]'(by omega)).many + x.many }).set p { o[p]'(by omega) with many := (o[p]'(by omega)).many + x.many, cents := (o[p]'(by omega)).cents + x.cents } := by
  have h1 := (mgC_at hp).1
  unfold mgC
  rw [(mgC_at hp).2]
  simp only
  rw [if_pos h, List.set_set]
  generalize o[p]'(by omega) = y at *
  have hd : o.dropLast.length = p := by rw [List.length_dropLast]; omega
  generalize o.dropLast = d at *
  subst h1
  rw [List.set_append_right _ _ (by omega), hd, Nat.sub_self]
  rfl
/-- the cells with the kept keys alone, so far -/
def AllK (w : World) (l : List Ce) (keep : List Int) (k : Nat) (wr : World) (v : Value) (all : List Ce) : Prop := LK w.heap.size wr v all ∧ Below w.heap.size w wr ∧ all.map Ce.el = ((l.take k).map Ce.el).map (prE keep) ∧ all.length = k
/-- the cells put together so far -/
def MgK (w wm : World) (s : List Ce) (k : Nat) (wr : World) (v : Value) (o : List Ce) : Prop := LK wm.heap.size wr v o ∧ Below wm.heap.size wm wr ∧ o = (s.take k).foldl mgC [] ∧ (∀ y ∈ o, bndE k y.el) ∧ o.length ≤ k ∧ ∀ y ∈ o, y.keys.length ≤ 1000
theorem mg_step {s o : List Ce} {k : Nat} (hk : k < s.length) (ho : o = (s.take k).foldl mgC []) : mgC o s[k] = (s.take (k + 1)).foldl mgC [] := by
  rw [List.take_succ_eq_append_getElem hk, List.foldl_append, ← ho]
  rfl
theorem MgK.mk {w wm : World} {s : List Ce} {k : Nat} {wr : World} {v : Value} {o : List Ce} (h : LK wm.heap.size wr v o) (hb : Below wm.heap.size wm wr) (ho : o = (s.take k).foldl mgC []) (hd : ∀ y ∈ o, bndE k y.el) (hl : o.length ≤ k) (hk : ∀ y ∈ o, y.keys.length ≤ 1000) : MgK w wm s k wr v o := ⟨h, hb, ho, hd, hl, hk⟩
theorem mgC_len {o : List Ce} {x : Ce} : (mgC o x).length ≤ o.length + 1 := by
  rcases List.eq_nil_or_concat o with rfl | ⟨a, z, rfl⟩
  · simp [mgC]
  · unfold mgC
    simp only [List.concat_eq_append, List.getLast?_append, List.getLast?_singleton, Option.some_or, List.dropLast_concat]
    split <;> simp
theorem mgC_mem {o : List Ce} {x y : Ce} (h : y ∈ mgC o x) : y.keys = x.keys ∨ ∃ z ∈ o, y.keys = z.keys := by
  rcases List.eq_nil_or_concat o with rfl | ⟨a, z, rfl⟩
  · simp [mgC] at h
    exact .inl (by rw [h])
  · unfold mgC at h
    simp only [List.concat_eq_append, List.getLast?_append, List.getLast?_singleton, Option.some_or, List.dropLast_concat] at h
    split at h
    · rcases List.mem_append.1 h with h | h
      · exact .inr ⟨y, by simp [h], rfl⟩
      · simp only [List.mem_singleton] at h
        exact .inr ⟨z, by simp, by rw [h]⟩
    · rcases List.mem_append.1 h with h | h
      · exact .inr ⟨y, by simpa using h, rfl⟩
      · simp only [List.mem_singleton] at h
        exact .inl (by rw [h])
theorem infoCe : (Tryd.prog.info? 44).map (fun i => (i.zero, i.size, i.bytes)) = some (some (.agg #[.slice none 0 0, .int .i64 0, .int .i64 0]), 3, 40) := by kernel_rfl
theorem infoSt : (Tryd.prog.info? 9).map (fun i => (i.zero, i.size, i.bytes)) = some (some (.string ⟨#[]⟩), 1, 16) := by kernel_rfl
set_option maxRecDepth 100000 in
set_option maxHeartbeats 16000000 in
theorem Fold_any (a : Option Addr) (l : List Ce) (n c : Nat) (ak : Option Addr) (keep : List Int) (m ck : Nat) (w : World) (hn : l.length = n) (hn1 : n ≤ 16) (hI : RAt w a 3 Ce.cells l) (hT : TagsAt Ce.tv Ce.keys w l) (hok : ∀ x ∈ l, x.ok) (hm : keep.length = m) (hm1 : m ≤ 16) (hK : IntsAt w ak keep) (hkb : ∀ z ∈ keep, -100 ≤ z ∧ z ≤ 100) :
    Calls Tryd.prog 8 #[.slice a n c, .slice ak m ck] w (FoldOut w l keep) := by
  obtain ⟨i0, hi, hz0, hz1, hz2⟩ := info_parts infoCe
  obtain ⟨j0, hj, hy0, hy1, hy2⟩ := info_parts infoSt
  have C1 := Lib.hid (CheckCells_any a l n c w hn (by omega) hI hT hok)
  have HN := Lib.hid hn
  have HM := Lib.hid hm
  have HI := Lib.hid hI
  have HT := Lib.hid hT
  have HK := Lib.hid hK
  have HKB := Lib.hid hkb
  have HOK := Lib.hid (fun h => ce_ok (l := l) (by omega) h)
  have HDB := Lib.hid (fun h => dimE_bd (l := l) (by omega) h)
  have HF1 := Lib.hid (fun h0 => fdE_1 (l := l) (keep := keep) (E := ceE l) rfl h0)
  have HF2 := Lib.hid (fun (h : ceE l = 0) (K : Int) hk h0 => fdE_2 (l := l) (keep := keep) (K := K) h hk h0)
  have HF3 := Lib.hid (fun (h : ceE l = 0) (b : Bool) hk hb => fdE_3 (l := l) (keep := keep) (b := b) h hk hb)
  clear hn hI hT hok hm hK hkb
  generalize ceE l = E at *
  go_enter Tryd.func8, Tryd.ntmps8
  go_wp2_with fail
  with_reducible refine C1.out.mono ?_
  rintro e w1 ⟨rfl, b1⟩
  have HB1 := Lib.hid b1
  clear b1 C1
  by_cases hE : E = 0
  · subst hE
    have HOK1 := Lib.hid (HOK.out rfl)
    have HF2' := Lib.hid (HF2.out rfl)
    have HF3' := Lib.hid (HF3.out rfl)
    obtain ⟨hd0, hd6⟩ := HDB.out rfl
    clear HF1 HF2 HF3 HOK HDB
    obtain ⟨d, hd⟩ : ∃ d, dimE l = d := ⟨_, rfl⟩
    rw [hd] at hd0 hd6
    have HD := Lib.hid hd
    clear hd
    go_upto_if 27 with (fail)
    go_cut [7] (fun u wx => u = .int .i64 d ∧ w1 = wx)
    case first =>
      by_cases hn0 : n = 0
      · subst hn0
        have HD2 := Lib.hid (show d = 6 by
          have h1 := HN.out
          have h2 := HD.out
          rw [List.eq_nil_of_length_eq_zero h1] at h2
          exact h2.symm)
        go_wp2_with fail
        go_meet
        exact ⟨by rw [HD2.out], rfl⟩
      · have hn2 : 0 < n := by omega
        have hl0 : 0 < l.length := by have := HN.out; omega
        obtain ⟨p, off, rfl, hp, c0, -, -⟩ := (HI.out.below HB1.out).at3 hl0 (v0 := .slice l[0].tv l[0].keys.length l[0].tc) (v1 := .int .i64 l[0].many) (v2 := .int .i64 l[0].cents) rfl
        simp only [Nat.zero_mul, Nat.add_zero] at c0
        have HD2 := Lib.hid (show (l[0].keys.length : Int) = d by rw [(HOK1.out 0 hl0).1, HD.out])
        generalize l[0].tv = tv at *
        generalize l[0].tc = tc at *
        generalize l[0].keys.length = n0 at *
        go_wp2_with fail
        go_meet
        exact ⟨by rw [HD2.out], rfl⟩
    case rest =>
    obtain ⟨rfl, rfl⟩ := hcut
    obtain ⟨K, hKE⟩ : ∃ K, kpE d keep keep.length 0 = K := ⟨_, rfl⟩
    have HK0 : Hid (kpE d keep (keep.length - 0) 0 = K) := Lib.hid hKE
    rw [HD.out, hKE] at HF2'
    rw [HD.out, hKE] at HF3'
    have HKOK := Lib.hid (fun h : K = 0 => kp_ok (d := d) (keep := keep) (hKE.trans h))
    clear hKE
    go_wp2_with fail
    go_loop [8, 9, 35] (fun _ _ i => ∃ k : Nat, k ≤ m ∧ i = .int .i64 k ∧ Hid (kpE d keep (keep.length - k) k = K)) (fun _ _ i => m - (intOf i).toNat)
    case atStart => exact ⟨0, Nat.zero_le _, rfl, HK0⟩
    case round =>
      obtain ⟨k, hk, rfl, HKK⟩ := hrel
      by_cases hlt : k < m
      · have hkl : k < keep.length := by have := HM.out; omega
        obtain ⟨p, off, rfl, hp, c0⟩ := (HK.out.below HB1.out).at_ hkl
        have hb := HKB.out keep[k] (List.getElem_mem hkl)
        have HS := Lib.hid ((kpE_step d keep k hkl).symm.trans HKK.out)
        rw [List.getD_eq_getElem?_getD, List.getElem?_eq_getElem hkl, Option.getD_some] at HS
        have CW := Lib.hid (fun w => within_b keep[k] 0 (d - 1) w)
        have HPC := Lib.hid (fun (h : k - 1 < keep.length) => (HK.out.below HB1.out).at_ h)
        have HPB := Lib.hid (fun (h : k - 1 < keep.length) => HKB.out keep[k - 1] (List.getElem_mem h))
        have HPD := Lib.hid (fun (h : k - 1 < keep.length) => show keep.getD (k - 1) 0 = keep[k - 1] by rw [List.getD_eq_getElem?_getD, List.getElem?_eq_getElem h, Option.getD_some])
        generalize keep[k] = z at *
        obtain ⟨hb1, hb2⟩ := hb
        by_cases h1 : z < 0 ∨ d ≤ z
        · have HKV := Lib.hid ((if_pos h1).symm.trans HS.out)
          rw [show (decide (0 ≤ z) && decide (z ≤ d - 1)) = false by rw [Bool.eq_false_iff]; simp only [ne_eq, Bool.and_eq_true, decide_eq_true_eq]; omega] at CW
          clear h1
          go_wp2_with fail
          with_reducible refine (CW.out _).mono ?_
          rintro e w2 ⟨rfl, rfl⟩
          go_wp2_with fail
          go_ret2
          exact FoldOut.no (HF2'.out _ HKV.out.symm (by omega)) (by omega) HB1.out
        · rw [if_neg h1] at HS
          rw [show (decide (0 ≤ z) && decide (z ≤ d - 1)) = true by simp only [Bool.and_eq_true, decide_eq_true_eq]; omega] at CW
          clear h1
          by_cases hk0 : 0 < k
          · have hkp : k - 1 < keep.length := by omega
            obtain ⟨p', off', ha', hp', c1⟩ := HPC.out hkp
            injection ha' with ha'
            injection ha' with e1 e2
            subst e1 e2
            have hb' := HPB.out hkp
            rw [HPD.out hkp] at HS
            clear HPC HPB HPD
            generalize keep[k - 1] = y at *
            obtain ⟨hb3, hb4⟩ := hb'
            have hk0i : (0 : Int) < (k : Int) := by omega
            by_cases h2 : z ≤ y
            · have HKV := Lib.hid ((if_pos ⟨hk0, h2⟩).symm.trans HS.out)
              go_wp2_with fail
              with_reducible refine (CW.out _).mono ?_
              rintro e w2 ⟨rfl, rfl⟩
              go_wp2_with fail
              go_ret2
              exact FoldOut.no (HF2'.out _ HKV.out.symm (by omega)) (by omega) HB1.out
            · have HKV := Lib.hid ((if_neg (fun h => h2 h.2)).symm.trans HS.out)
              go_wp2_with fail
              with_reducible refine (CW.out _).mono ?_
              rintro e w2 ⟨rfl, rfl⟩
              go_wp2_with fail
              go_round
              case rel => exact ⟨k + 1, by omega, by go_num, HKV⟩
              case measure => simp [intOf]; omega
          · have HKV := Lib.hid ((if_neg (fun h => hk0 h.1)).symm.trans HS.out)
            clear HPC HPB HPD
            go_wp2_with fail
            with_reducible refine (CW.out _).mono ?_
            rintro e w2 ⟨rfl, rfl⟩
            go_wp2_with fail
            go_round
            case rel => exact ⟨k + 1, by omega, by go_num, HKV⟩
            case measure => simp [intOf]; omega
      · obtain rfl : K = 0 := HKK.out.symm.trans (kpE_end d keep k (by have := HM.out; omega))
        obtain rfl : m = k := by omega
        have HKOK1 := Lib.hid (HKOK.out rfl)
        have HF4 := Lib.hid (HF3'.out · rfl)
        clear HKK HKOK HF2' HF3' HK0 HKB
        have HA0 : Hid (AllK w l keep 0 w1 (.slice none 0 0) []) := Lib.hid ⟨LK.nil HB1.out.size, HB1.out, rfl, rfl⟩
        go_wp2_with fail
        clear hlt hk
        go_loopw [10, 12, 13, 15, 61] (fun v _ _ _ i wr => ∃ (k : Nat) (all : List Ce), k ≤ n ∧ i = .int .i64 k ∧ Hid (AllK w l keep k wr v all)) (fun _ _ _ _ i _ => n - (intOf i).toNat)
        case atStart => exact ⟨0, [], Nat.zero_le _, rfl, HA0⟩
        case round =>
          obtain ⟨wo, rfl⟩ : ∃ wo : World, wo = wr := ⟨_, rfl⟩
          obtain ⟨k, all, hk, rfl, HA⟩ := hrel
          by_cases hlt : k < n
          · --@all
            have hkl : k < l.length := by have := HN.out; omega
            obtain ⟨p, off, rfl, hp, c0, c1, c2⟩ := (HI.out.below HA.out.2.1).at3 hkl (v0 := .slice l[k].tv l[k].keys.length l[k].tc) (v1 := .int .i64 l[k].many) (v2 := .int .i64 l[k].cents) rfl
            have HTk := Lib.hid (fun w' (hb : Below w.heap.size w w') => (HT.out.below hb) l[k] (List.getElem_mem hkl))
            have HKL := Lib.hid (show (l[k].keys.length : Int) = d by rw [(HOK1.out k hkl).1, HD.out])
            have hk6 := (HOK1.out k hkl).2.1
            have HE1 := Lib.hid (HA.out.2.2.1)
            have HTS := Lib.hid (show l.take (k + 1) = l.take k ++ [l[k]] from List.take_succ_eq_append_getElem hkl)
            generalize l[k] = x at *
            obtain ⟨tv, tc, ks, many, cents⟩ := x
            simp only at c0 c1 c2 HTk HKL hk6
            obtain ⟨nk, hnk⟩ : ∃ z, ks.length = z := ⟨_, rfl⟩
            rw [hnk] at c0 HKL hk6
            have HNK := Lib.hid hnk
            clear hnk
            have HAB := Lib.hid HA.out.2.1
            have HK0 : Hid (KX wo (wo.heap.size + 1) (wo.heap.size + 2) many cents ((wo.alloc (.cells #[.slice tv nk tc, .int .i64 many, .int .i64 cents] 44)).alloc (.cells #[.slice none 0 0, .int .i64 many, .int .i64 cents] 44)) (.slice none 0 0) (kept keep ks 0)) := Lib.hid (KX.new wo (.slice tv nk tc) many cents)
            have HX0 := Lib.hid (XB.new2 wo (.slice tv nk tc) (.int .i64 many) (.int .i64 cents) (.cells #[.slice none 0 0, .int .i64 many, .int .i64 cents] 44))
            go_wp2_with fail
            generalize (wo.alloc (.cells #[.slice tv nk tc, .int .i64 many, .int .i64 cents] 44)).alloc (.cells #[.slice none 0 0, .int .i64 many, .int .i64 cents] 44) = wa at *
            clear c0 c1 c2
            go_loopw [15, 72] (fun _ i wx => ∃ (j : Nat) (v : Value), j ≤ m ∧ i = .int .i64 j ∧ Hid (KX wo (wo.heap.size + 1) (wo.heap.size + 2) many cents wx v (kept keep ks j)) ∧ Hid (XB wx wo.heap.size [.slice tv nk tc, .int .i64 many, .int .i64 cents])) (fun _ i _ => m - (intOf i).toNat)
            case atStart => exact ⟨0, _, Nat.zero_le _, rfl, HK0, HX0⟩
            case round =>
              obtain ⟨j, v, hjm, rfl, HKX, HX⟩ := hrel
              by_cases hlj : j < m
              · have hjl : j < keep.length := by have := HM.out; omega
                have HBX := Lib.hid (HAB.out.trans (HKX.out.bel.mono HAB.out.size))
                obtain ⟨pk, offk, rfl, hpk, ck0⟩ := (HK.out.below HBX.out).at_ hjl
                obtain ⟨hz0', hz1'⟩ := HKOK1.out j hjl
                obtain ⟨zi, hzi⟩ := Int.eq_ofNat_of_zero_le hz0'
                have hzk : zi < ks.length := by have := HKL.out; have := HNK.out; omega
                have HKS := Lib.hid (kept_succ keep ks j hjl (by rw [hzi]; simpa using hzk))
                have HSS := Lib.hid (show ks[keep[j].toNat]'(by rw [hzi]; simpa using hzk) = ks[zi] by simp [hzi])
                have hzn : zi < nk := by have := HNK.out; omega
                obtain ⟨ps, offs, hpt, hps, cs0⟩ := (HTk.out _ HBX.out) zi hzk
                have hpt0 := hpt
                rw [hpt] at HX
                have HKL2 := Lib.hid (kept_len keep ks j (by omega))
                rw [HSS.out] at HKS
                rw [hzi] at ck0
                generalize ks[zi] = s at *
                clear hzi hz0' hz1' HSS
                obtain ⟨ta, tcx, rfl⟩ := HKX.out.form
                rw [HKL2.out] at HKX
                obtain ⟨x0, x1, x2⟩ := HX.out.at3
                have y0 := HKX.out.ob.cell 0 _ rfl
                have hql := HKX.out.ob.lt
                have hql0 := HX.out.1
                have HOW := Lib.hid (show (wr.drew.alloc (.cells #[.string s] 9)).ownsRow (wo.heap.size + 2) 9 1 (.slice ta j tcx) j ((kept keep ks j).map Value.string) from by
                  have h := HKX.out.own
                  rw [HKL2.out] at h
                  exact World.ownsRow.alloc (show wr.drew.ownsRow _ _ _ _ _ _ from h) _)
                have HCN := Lib.hid (cells_new wr.drew #[.string s] 9)
                have HONE : Hid (∀ v ∈ [Value.string s], v.oneCell' = true) := Lib.hid (by simp [Value.oneCell'])
                have h63 : j + 1 ≤ maxLen := by unfold maxLen; omega
                have hby : (j + 1) * 16 ≤ 140737488355328 := by omega
                have HBS := Lib.hid (show wo.heap.size + 2 ≤ (wr.drew.alloc (.cells #[.string s] 9)).heap.size by have := HKX.out.sz; simp; omega)
                have h01 : 0 < 1 := by omega
                have HPT := Lib.hid hpt
                clear hk6 hpt hpt0
                go_wp2_with fail
                go_region_law ((refine step_append_lies _ (by rfl) _ _ 41 (by rfl) (wo.heap.size + 2) 9 j0 _ 1 16 Tryd.underlying41 hj hy0 hy1 hy2 (by rfl) h01 _ _ _ (by rfl) HOW.out ⟨wr.drew.heap.size, 0, none⟩ 1 1 _ (by rfl) (by rfl) HCN.out HONE.out h01 h63 hby HBS.out _ (by rfl) ?_; intro g cap w8 own8 hgrow8 hat8 hlt8; have hAA := HKX.out.app HKL2.out own8 hgrow8; have HA8 := Lib.hid hAA; have cA := hAA.1; have fA := hAA.2.1; clear hAA))
                all_goals
                  have HK9 := Lib.hid (show KX wo (wo.heap.size + 1) (wo.heap.size + 2) many cents (w8.setCell ⟨wo.heap.size + 1, 0, none⟩ (.slice (some ⟨g, 0, none⟩) (j + 1) cap)) (.slice (some ⟨g, 0, none⟩) (j + 1) cap) (kept keep ks (j + 1)) by rw [HKS.out]; exact HA8.out.2.2.1)
                  have HX9 := Lib.hid (HA8.out.2.2.2 _ _ (by omega) (by omega) HX.out)
                  clear HA8 cA fA own8 hgrow8 hat8 hlt8 HKX HX HOW HCN HBS HKS HKL2
                  go_wp2_with fail
                  go_roundw
                  case rel => exact ⟨j + 1, _, by omega, by go_num, HK9, by rw [HPT.out]; exact HX9⟩
                  case measure => simp [intOf]; omega
              · obtain rfl : m = j := by omega
                obtain ⟨ta, tcx, rfl⟩ := HKX.out.form
                have HKL2 := Lib.hid (kept_len keep ks m (by have := HM.out; omega))
                rw [HKL2.out] at HKX
                have y0 := HKX.out.ob.cell 0 _ rfl
                have y1 := HKX.out.ob.cell 1 _ rfl
                have y2 := HKX.out.ob.cell 2 _ rfl
                have hql := HKX.out.ob.lt
                have HBX := Lib.hid (HAB.out.trans (HKX.out.bel.mono HAB.out.size))
                have HL9 := Lib.hid (HA.out.1.below HKX.out.bel)
                have HKY := Lib.hid (HKX.out.key HKL2.out)
                have hlen := HA.out.2.2.2
                have HLN := Lib.hid hlen
                have own9 := HL9.out.own.alloc (.cells #[.slice ta m tcx, .int .i64 many, .int .i64 cents] 44)
                rw [hlen] at own9
                have hsz9 := HL9.out.sz
                have HKN := Lib.hid (show kept keep ks m = kept keep ks keep.length by rw [HM.out])
                clear hlen HKX HX
                go_wp2_with (at_builtin; refine wpList_append_own _ rfl _ _ 26 rfl w.heap.size 44 i0 _ 3 40 Tryd.underlying26 hi hz0 hz1 hz2 rfl (by decide) _ _ _ rfl own9 ⟨wr.heap.size, 0, none⟩ 1 1 [.slice ta m tcx, .int .i64 many, .int .i64 cents] rfl rfl ?c1 ?c2 ?c3 ?c4 ?c5 ?_)
                case c1 => exact cells_new wr #[.slice ta m tcx, .int .i64 many, .int .i64 cents] 44
                case c2 => simp [Value.oneCell']
                case c3 => unfold maxLen; omega
                case c4 => omega
                case c5 => simp; omega
                intro v2 w8 own8 hgrow8 hne8
                have HL8 := Lib.hid (HL9.out.snoc (x := ⟨ta, tcx, kept keep ks m, many, cents⟩) HKY.out (by
                  simp only [Ce.cells, HKL2.out]
                  rw [HLN.out]
                  exact own8) hgrow8)
                have HB8 := Lib.hid ((HBX.out.alloc HBX.out.size (.cells #[.slice ta m tcx, .int .i64 many, .int .i64 cents] 44)).grown hgrow8 (by have := HBX.out.size; simp; omega) (fun q hq => (HL9.out.own.lt q hq).1))
                have HE8 := Lib.hid (show (all ++ [(⟨ta, tcx, kept keep ks m, many, cents⟩ : Ce)]).map Ce.el = ((l.take (k + 1)).map Ce.el).map (prE keep) by
                  rw [HTS.out, List.map_append, List.map_append, List.map_append, HE1.out, List.map_cons, List.map_nil, List.map_cons, List.map_nil, List.map_cons, List.map_nil, HKN.out]
                  rw [kept_all keep ⟨tv, tc, ks, many, cents⟩ ta tcx])
                clear hne8 own8 hgrow8 HL9 own9
                go_wp2_with fail
                go_roundw
                case rel => exact ⟨k + 1, all ++ [⟨ta, tcx, kept keep ks m, many, cents⟩], by omega, by go_num, ⟨HL8.out, HB8.out, HE8.out, by rw [List.length_append, HLN.out]; rfl⟩⟩
                case measure => simp [intOf]; omega
            --@end
          · obtain rfl : n = k := by omega
            obtain ⟨va, vc, rfl, -, -, -⟩ := HA.out.1.rat
            have HLN := Lib.hid HA.out.2.2.2
            have HE1 := Lib.hid (show all.map Ce.el = (l.map Ce.el).map (prE keep) by have h := HA.out.2.2.1; rw [List.take_of_length_le (by have := HN.out; omega)] at h; exact h)
            have HLA := Lib.hid HA.out.1
            have HBA := Lib.hid HA.out.2.1
            have HBD := Lib.hid (all_bnd HE1.out (fun x hx => by
              obtain ⟨j, hj, rfl⟩ := List.mem_iff_getElem.1 hx
              exact (HOK1.out j hj).2.2))
            rw [HLN.out] at HLA
            have CS := Lib.hid (sortStable_ce w.heap.size wo va n vc all HLA.out HLN.out (by omega) (fun x hx => by have := (HBD.out x hx).2; have := HM.out; omega))
            rw [HLN.out]
            clear HA HA0 HI HT HK HOK1 HKOK1
            go_wp2_with fail
            with_reducible refine CS.out.mono ?_
            rintro e wm ⟨rfl, s, hs, hL, hg⟩
            have HS := Lib.hid hs
            have HLS := Lib.hid hL
            have HSN := Lib.hid (hs.1.length_eq.trans HLN.out)
            have HBM := Lib.hid (HBA.out.grown hg HBA.out.size (fun q hq => (HLA.out.own.lt q hq).1))
            have HSB := Lib.hid (fun x hx => HBD.out x (hs.1.subset hx))
            have HEA := HE1
            clear hs hL hg HLA HBA HBD CS HE1
            have HRS := Lib.hid (show RAt wm va 3 Ce.cells s by
              obtain ⟨a', c', e, hr, -, -⟩ := HLS.out.rat
              injection e with e1 e2 e3
              subst e1
              exact hr)
            have HM0 : Hid (MgK w wm s 0 wm (.slice none 0 0) []) := Lib.hid (MgK.mk (LK.nil (Nat.le_refl _)) (Below.refl _ _) rfl (by simp) (by simp) (by simp))
            go_wp2_with fail
            go_loopw [16, 18, 19, 96] (fun v _ _ i wr => ∃ (k : Nat) (o : List Ce), k ≤ n ∧ i = .int .i64 k ∧ Hid (MgK w wm s k wr v o)) (fun _ _ _ i _ => n - (intOf i).toNat)
            case atStart => exact ⟨0, [], Nat.zero_le _, rfl, HM0⟩
            case round =>
              obtain ⟨k, o, hk, rfl, HG⟩ := hrel
              by_cases hlt : k < n
              · have hkl : k < s.length := by have := HSN.out; omega
                obtain ⟨p, off, rfl, hp, c0, c1, c2⟩ := (HRS.out.below HG.out.2.1).at3 hkl (v0 := .slice s[k].tv s[k].keys.length s[k].tc) (v1 := .int .i64 s[k].many) (v2 := .int .i64 s[k].cents) rfl
                have HKX := Lib.hid ((HLS.out.ky s[k] (List.getElem_mem hkl)).below HG.out.2.1)
                have HBX := Lib.hid (HSB.out s[k] (List.getElem_mem hkl))
                have HST := Lib.hid (mg_step hkl HG.out.2.2.1)
                have HBD := Lib.hid (mgC_bnd HG.out.2.2.2.1 HBX.out.1)
                have HLL := Lib.hid (show (mgC o s[k]).length ≤ k + 1 from Nat.le_trans mgC_len (by have := HG.out.2.2.2.2.1; omega))
                have HKK := Lib.hid (show ∀ y ∈ mgC o s[k], y.keys.length ≤ 1000 from fun y hy => by
                  rcases mgC_mem hy with e | ⟨z, hz, e⟩
                  · rw [e, HBX.out.2]; have := HM.out; omega
                  · rw [e]; exact HG.out.2.2.2.2.2 z hz)
                have hxk : s[k].keys.length ≤ 1000 := by rw [HBX.out.2]; have := HM.out; omega
                have hbx := HBX.out.1
                generalize s[k] = x at *
                obtain ⟨tv, tc, ks, many, cents⟩ := x
                simp only at c0 c1 c2 HKX hxk
                simp only [bndE, Ce.el] at hbx
                obtain ⟨bx1, bx2, bx3, bx4⟩ := hbx
                obtain ⟨nk, hnk⟩ : ∃ z, ks.length = z := ⟨_, rfl⟩
                rw [hnk] at c0 hxk
                have HNK := Lib.hid hnk
                clear hnk
                have HL1 := Lib.hid (HG.out.1.alloc (.cells #[.slice tv nk tc, .int .i64 many, .int .i64 cents] 44))
                have HB1' := Lib.hid (HG.out.2.1.alloc HG.out.2.1.size (.cells #[.slice tv nk tc, .int .i64 many, .int .i64 cents] 44))
                have HX1 := Lib.hid (XB.new wr [.slice tv nk tc, .int .i64 many, .int .i64 cents] 44)
                have HK1 := Lib.hid (HKX.out.alloc (.cells #[.slice tv nk tc, .int .i64 many, .int .i64 cents] 44))
                simp only [List.toArray] at HX1
                have hbo := HG.out.2.2.2.1
                have hol := HG.out.2.2.2.2.1
                have HOK := Lib.hid HG.out.2.2.2.2.2
                rcases HG.out.1.own.2 with ⟨rfl, h0⟩ | ⟨g, cap, cur, rfl, hbg, hg, hnc, hcm, hcs, htk⟩
                · --@nil
                  obtain rfl := List.eq_nil_of_length_eq_zero h0
                  have HMC := Lib.hid (mgC_nil ⟨tv, tc, ks, many, cents⟩)
                  have HOL : Hid (([] : List Ce).length = 0) := Lib.hid rfl
                  clear hbo hol h0
                  go_wp2_with fail
                  go_quiet (fail)
                  generalize hwq : (World.drewN _ _) = wq at *
                  have HLq := Lib.hid (show LK wm.heap.size wq (.slice none 0 0) [] from hwq ▸ HL1.out.below (below_drewN (Below.refl _ _) _))
                  have HBq := Lib.hid (show Below wm.heap.size wm wq from hwq ▸ below_drewN HB1'.out _)
                  have HXq := Lib.hid (show XB wq wr.heap.size [.slice tv nk tc, .int .i64 many, .int .i64 cents] from hwq ▸ HX1.out.drewN _)
                  have HKq := Lib.hid (show KyF wq tv ks from hwq ▸ HK1.out.below (below_drewN (Below.refl _ _) _))
                  clear hwq HL1 HB1' HX1 HK1 c0 c1 c2
                  obtain ⟨x0, x1, x2⟩ := HXq.out.at3
                  have hq := HXq.out.1
                  have own9 := HLq.out.own.alloc (.cells #[.slice tv nk tc, .int .i64 many, .int .i64 cents] 44)
                  rw [HOL.out] at own9
                  have hszq := HLq.out.sz
                  go_wp2_with (at_builtin; refine wpList_append_own _ rfl _ _ 26 rfl wm.heap.size 44 i0 _ 3 40 Tryd.underlying26 hi hz0 hz1 hz2 rfl (by decide) _ _ _ rfl own9 ⟨wq.heap.size, 0, none⟩ 1 1 [.slice tv nk tc, .int .i64 many, .int .i64 cents] rfl rfl ?ca1 ?ca2 ?ca3 ?ca4 ?ca5 ?_)
                  case ca1 => exact cells_new wq #[.slice tv nk tc, .int .i64 many, .int .i64 cents] 44
                  case ca2 => simp [Value.oneCell']
                  case ca3 => unfold maxLen; omega
                  case ca4 => omega
                  case ca5 => simp; omega
                  intro v2 w8 own8 hgrow8 hne8
                  have HL8 := Lib.hid (HLq.out.snoc (x := ⟨tv, tc, ks, many, cents⟩) HKq.out (by
                    simp only [Ce.cells]
                    rw [HOL.out, HNK.out]
                    exact own8) hgrow8)
                  have HB8 := Lib.hid ((HBq.out.alloc HBq.out.size (.cells #[.slice tv nk tc, .int .i64 many, .int .i64 cents] 44)).grown hgrow8 (by have := HBq.out.size; simp; omega) (fun q hq => (HLq.out.own.lt q hq).1))
                  have HR := Lib.hid (MgK.mk (w := w) (s := s) (k := k + 1) (HMC.out ▸ HL8.out) HB8.out HST.out HBD.out HLL.out HKK.out)
                  clear hne8 own8 hgrow8 HLq own9 x0 x1 x2 hq HXq HKq HL8 HB8 HST HBD HLL HKK HMC
                  go_wp2_with fail
                  go_roundw
                  case rel => exact ⟨k + 1, _, by omega, by go_num, HR⟩
                  case measure => simp [intOf]; omega
                  --@end
                · clear hg hcs htk
                  obtain ⟨p, hpo⟩ : ∃ p, o.length = p := ⟨_, rfl⟩
                  rw [hpo] at hnc hol HL1 ⊢
                  have HPO := Lib.hid hpo
                  clear hpo
                  by_cases hP0 : p = 0
                  · --@nil
                    subst hP0
                    obtain rfl := List.eq_nil_of_length_eq_zero HPO.out
                    have HMC := Lib.hid (mgC_nil ⟨tv, tc, ks, many, cents⟩)
                    have HOL : Hid (([] : List Ce).length = 0) := Lib.hid rfl
                    clear hbo hol
                    go_wp2_with fail
                    go_quiet (fail)
                    generalize hwq : (World.drewN _ _) = wq at *
                    have HLq := Lib.hid (show LK wm.heap.size wq (.slice (some ⟨g, 0, none⟩) 0 cap) [] from hwq ▸ HL1.out.below (below_drewN (Below.refl _ _) _))
                    have HBq := Lib.hid (show Below wm.heap.size wm wq from hwq ▸ below_drewN HB1'.out _)
                    have HXq := Lib.hid (show XB wq wr.heap.size [.slice tv nk tc, .int .i64 many, .int .i64 cents] from hwq ▸ HX1.out.drewN _)
                    have HKq := Lib.hid (show KyF wq tv ks from hwq ▸ HK1.out.below (below_drewN (Below.refl _ _) _))
                    clear hwq HL1 HB1' HX1 HK1 c0 c1 c2
                    obtain ⟨x0, x1, x2⟩ := HXq.out.at3
                    have hq := HXq.out.1
                    have own9 := HLq.out.own.alloc (.cells #[.slice tv nk tc, .int .i64 many, .int .i64 cents] 44)
                    rw [HOL.out] at own9
                    have hszq := HLq.out.sz
                    go_wp2_with (at_builtin; refine wpList_append_own _ rfl _ _ 26 rfl wm.heap.size 44 i0 _ 3 40 Tryd.underlying26 hi hz0 hz1 hz2 rfl (by decide) _ _ _ rfl own9 ⟨wq.heap.size, 0, none⟩ 1 1 [.slice tv nk tc, .int .i64 many, .int .i64 cents] rfl rfl ?cb1 ?cb2 ?cb3 ?cb4 ?cb5 ?_)
                    case cb1 => exact cells_new wq #[.slice tv nk tc, .int .i64 many, .int .i64 cents] 44
                    case cb2 => simp [Value.oneCell']
                    case cb3 => unfold maxLen; omega
                    case cb4 => omega
                    case cb5 => simp; omega
                    intro v2 w8 own8 hgrow8 hne8
                    have HL8 := Lib.hid (HLq.out.snoc (x := ⟨tv, tc, ks, many, cents⟩) HKq.out (by
                      simp only [Ce.cells]
                      rw [HOL.out, HNK.out]
                      exact own8) hgrow8)
                    have HB8 := Lib.hid ((HBq.out.alloc HBq.out.size (.cells #[.slice tv nk tc, .int .i64 many, .int .i64 cents] 44)).grown hgrow8 (by have := HBq.out.size; simp; omega) (fun q hq => (HLq.out.own.lt q hq).1))
                    have HR := Lib.hid (MgK.mk (w := w) (s := s) (k := k + 1) (HMC.out ▸ HL8.out) HB8.out HST.out HBD.out HLL.out HKK.out)
                    clear hne8 own8 hgrow8 HLq own9 x0 x1 x2 hq HXq HKq HL8 HB8 HST HBD HLL HKK HMC
                    go_wp2_with fail
                    go_roundw
                    case rel => exact ⟨k + 1, _, by omega, by go_num, HR⟩
                    case measure => simp [intOf]; omega
                    --@end
                  · have hpl : p - 1 < o.length := by have := HPO.out; omega
                    have hPp : 0 < p := by omega
                    have HPQ := Lib.hid (show o.length = p - 1 + 1 by have := HPO.out; omega)
                    have hyb := hbo o[p - 1] (List.getElem_mem hpl)
                    simp only [bndE, Ce.el] at hyb
                    obtain ⟨yb1, yb2, yb3, yb4⟩ := hyb
                    have hyk := HOK.out o[p - 1] (List.getElem_mem hpl)
                    have d0 := HL1.out.cell (j := p - 1) (i := 0) HPO.out hpl (by omega) (u := .slice o[p - 1].tv o[p - 1].keys.length o[p - 1].tc) rfl
                    simp only [Nat.add_zero] at d0
                    have HKY := Lib.hid (HL1.out.ky o[p - 1] (List.getElem_mem hpl))
                    have HME := Lib.hid (fun h => mgC_eq (x := ⟨tv, tc, ks, many, cents⟩) HPQ.out h)
                    have HMN := Lib.hid (fun h => mgC_ne (x := ⟨tv, tc, ks, many, cents⟩) HPQ.out h)
                    have CE := Lib.hid (fun w' (h : StrsAt w' o[p - 1].tv o[p - 1].keys) (h' : StrsAt w' tv ks) => equal_strs2 o[p - 1].tv tv o[p - 1].keys ks o[p - 1].keys.length nk o[p - 1].tc tc w' rfl HNK.out hyk hxk h h')
                    simp only at HME HMN
                    have hk16 : k < 16 := by omega
                    have hgl : g < wr.heap.size := (HG.out.1.own.lt g (by simp [Value.ownBlock])).2
                    have hp16 : p ≤ 16 := by omega
                    have hPi : (0 : Int) < (p : Int) := by omega
                    have hPj : (0 : Int) ≤ (p : Int) - 1 := by omega
                    have hPk : (1 : Int) ≤ (p : Int) := by omega
                    by_cases hks : o[p - 1].keys = ks
                    · have HMC := Lib.hid (HME.out hks)
                      rw [decide_eq_true hks] at CE
                      clear HMN HME hks hbo hol
                      obtain ⟨y, hy⟩ : ∃ y, o[p - 1] = y := ⟨_, rfl⟩
                      have HYY := Lib.hid hy
                      rw [hy] at CE HMC HKY yb1 yb2 yb3 yb4 hyk d0
                      clear hy
                      obtain ⟨ytv, ytc, yks, ym, yc⟩ := y
                      simp only at CE HMC HKY yb1 yb2 yb3 yb4 hyk d0
                      obtain ⟨yn, hyn⟩ : ∃ z, yks.length = z := ⟨_, rfl⟩
                      rw [hyn] at CE hyk d0
                      have HYN := Lib.hid hyn
                      clear hyn
                      go_wp2_with fail
                      go_quiet ((go_at_call 29; exact Calls.quiet_of (CE.out _ (HKY.out.below (below_drewN (Below.refl _ _) _)).strs (HK1.out.below (below_drewN (Below.refl _ _) _)).strs)))
                      generalize hwq : (World.drewN _ _) = wq at *
                      have HLq := Lib.hid (show LK wm.heap.size wq (.slice (some ⟨g, 0, none⟩) p cap) o from hwq ▸ HL1.out.below (below_drewN (Below.refl _ _) _))
                      have HBq := Lib.hid (show Below wm.heap.size wm wq from hwq ▸ below_drewN HB1'.out _)
                      have HXq := Lib.hid (show XB wq wr.heap.size [.slice tv nk tc, .int .i64 many, .int .i64 cents] from hwq ▸ HX1.out.drewN _)
                      clear hwq HL1 HB1' HX1 HK1 c0 c1 c2 d0 CE
                      have hgq : g < wq.heap.size := (HLq.out.own.lt g (by simp [Value.ownBlock])).2
                      obtain ⟨x0, x1, x2⟩ := HXq.out.at3
                      have hq := HXq.out.1
                      have d1 := HLq.out.cell (j := p - 1) (i := 1) HPO.out hpl (by omega) (u := .int .i64 ym) (by rw [HYY.out]; rfl)
                      have f1 := HLq.out.free HPO.out ((p - 1) * 3 + 1)
                      have HLa := Lib.hid (show LK wm.heap.size (wq.setCell ⟨g, (p - 1) * 3 + 1, none⟩ (.int .i64 (ym + many))).drew (.slice (some ⟨g, 0, none⟩) p cap) (o.set (p - 1) ⟨ytv, ytc, yks, ym + many, yc⟩) from (HLq.out.put (j := p - 1) (i := 1) (u := .int .i64 (ym + many)) (x' := ⟨ytv, ytc, yks, ym + many, yc⟩) HPO.out hpl (by omega) (by rw [HYY.out]; rfl) (by
                        have h := HLq.out.ky o[p - 1] (List.getElem_mem hpl)
                        rw [HYY.out] at h
                        exact h)).below (Below.refl _ _).drew)
                      have hgm : wm.heap.size ≤ g := hbg
                      have HBa := Lib.hid ((HBq.out.grown (setCell_grown wq g ((p - 1) * 3 + 1) (.int .i64 (ym + many))) HBq.out.size (fun q hq => by have : g = q := Option.some.inj hq; omega)).drew)
                      have hgr : g ≠ wr.heap.size := by omega
                      have HXa := Lib.hid (show XB (wq.setCell ⟨g, (p - 1) * 3 + 1, none⟩ (.int .i64 (ym + many))).drew _ _ from (show XB (wq.setCell ⟨g, (p - 1) * 3 + 1, none⟩ (.int .i64 (ym + many))) _ _ from HXq.out.grown (setCell_grown wq g ((p - 1) * 3 + 1) (.int .i64 (ym + many))) (by simpa using hgr)))
                      go_wp2_with fail
                      go_region
                      generalize (wq.setCell ⟨g, (p - 1) * 3 + 1, none⟩ (.int .i64 (ym + many))).drew = wa at *
                      clear HLq HBq HXq x0 x1 x2 hq d1 f1 hgq
                      have hgq : g < wa.heap.size := (HLa.out.own.lt g (by simp [Value.ownBlock])).2
                      obtain ⟨x0, x1, x2⟩ := HXa.out.at3
                      have hq := HXa.out.1
                      have hpl2 : p - 1 < (o.set (p - 1) ⟨ytv, ytc, yks, ym + many, yc⟩).length := by rw [List.length_set]; exact hpl
                      have HYa := Lib.hid (show (o.set (p - 1) ⟨ytv, ytc, yks, ym + many, yc⟩)[p - 1] = ⟨ytv, ytc, yks, ym + many, yc⟩ from List.getElem_set_self _)
                      have HPO2 := Lib.hid (show (o.set (p - 1) ⟨ytv, ytc, yks, ym + many, yc⟩).length = p by rw [List.length_set]; exact HPO.out)
                      have d2 := HLa.out.cell (j := p - 1) (i := 2) HPO2.out hpl2 (by omega) (u := .int .i64 yc) (by rw [HYa.out]; rfl)
                      have f2 := HLa.out.free HPO2.out ((p - 1) * 3 + 2)
                      have HLb := Lib.hid (show LK wm.heap.size (wa.setCell ⟨g, (p - 1) * 3 + 2, none⟩ (.int .i64 (yc + cents))).drew (.slice (some ⟨g, 0, none⟩) p cap) ((o.set (p - 1) ⟨ytv, ytc, yks, ym + many, yc⟩).set (p - 1) ⟨ytv, ytc, yks, ym + many, yc + cents⟩) from (HLa.out.put (j := p - 1) (i := 2) (u := .int .i64 (yc + cents)) (x' := ⟨ytv, ytc, yks, ym + many, yc + cents⟩) HPO2.out hpl2 (by omega) (by rw [HYa.out]; rfl) (by
                        have h := HLa.out.ky _ (List.getElem_mem hpl2)
                        rw [HYa.out] at h
                        exact h)).below (Below.refl _ _).drew)
                      have HBb := Lib.hid ((HBa.out.grown (setCell_grown wa g ((p - 1) * 3 + 2) (.int .i64 (yc + cents))) HBa.out.size (fun q hq => by have : g = q := Option.some.inj hq; omega)).drew)
                      go_wp2_with fail
                      go_region
                      generalize (wa.setCell ⟨g, (p - 1) * 3 + 2, none⟩ (.int .i64 (yc + cents))).drew = wb at *
                      have HR := Lib.hid (MgK.mk (w := w) (s := s) (k := k + 1) (HMC.out ▸ HLb.out) HBb.out HST.out HBD.out HLL.out HKK.out)
                      clear HLa HBa HXa x0 x1 x2 hq d2 f2 hgq HLb HBb HST HBD HLL HKK HMC
                      go_wp2_with fail
                      go_roundw
                      case rel => exact ⟨k + 1, _, by omega, by go_num, HR⟩
                      case measure => simp [intOf]; omega
                    · --@nil
                      have HMC := Lib.hid (HMN.out hks)
                      rw [decide_eq_false hks] at CE
                      clear HMN HME hks hbo hol
                      generalize o[p - 1].tv = ytv at *
                      generalize o[p - 1].tc = ytc at *
                      generalize o[p - 1].keys = yks at *
                      generalize yks.length = yn at *
                      have HOL := HPO
                      go_wp2_with fail
                      go_quiet ((go_at_call 29; exact Calls.quiet_of (CE.out _ (HKY.out.below (below_drewN (Below.refl _ _) _)).strs (HK1.out.below (below_drewN (Below.refl _ _) _)).strs)))
                      generalize hwq : (World.drewN _ _) = wq at *
                      have HLq := Lib.hid (show LK wm.heap.size wq (.slice (some ⟨g, 0, none⟩) p cap) o from hwq ▸ HL1.out.below (below_drewN (Below.refl _ _) _))
                      have HBq := Lib.hid (show Below wm.heap.size wm wq from hwq ▸ below_drewN HB1'.out _)
                      have HXq := Lib.hid (show XB wq wr.heap.size [.slice tv nk tc, .int .i64 many, .int .i64 cents] from hwq ▸ HX1.out.drewN _)
                      have HKq := Lib.hid (show KyF wq tv ks from hwq ▸ HK1.out.below (below_drewN (Below.refl _ _) _))
                      clear hwq HL1 HB1' HX1 HK1 c0 c1 c2
                      obtain ⟨x0, x1, x2⟩ := HXq.out.at3
                      have hq := HXq.out.1
                      have own9 := HLq.out.own.alloc (.cells #[.slice tv nk tc, .int .i64 many, .int .i64 cents] 44)
                      rw [HOL.out] at own9
                      have hszq := HLq.out.sz
                      go_wp2_with (at_builtin; refine wpList_append_own _ rfl _ _ 26 rfl wm.heap.size 44 i0 _ 3 40 Tryd.underlying26 hi hz0 hz1 hz2 rfl (by decide) _ _ _ rfl own9 ⟨wq.heap.size, 0, none⟩ 1 1 [.slice tv nk tc, .int .i64 many, .int .i64 cents] rfl rfl ?cc1 ?cc2 ?cc3 ?cc4 ?cc5 ?_)
                      case cc1 => exact cells_new wq #[.slice tv nk tc, .int .i64 many, .int .i64 cents] 44
                      case cc2 => simp [Value.oneCell']
                      case cc3 => unfold maxLen; omega
                      case cc4 => omega
                      case cc5 => simp; omega
                      intro v2 w8 own8 hgrow8 hne8
                      have HL8 := Lib.hid (HLq.out.snoc (x := ⟨tv, tc, ks, many, cents⟩) HKq.out (by
                        simp only [Ce.cells]
                        rw [HOL.out, HNK.out]
                        exact own8) hgrow8)
                      have HB8 := Lib.hid ((HBq.out.alloc HBq.out.size (.cells #[.slice tv nk tc, .int .i64 many, .int .i64 cents] 44)).grown hgrow8 (by have := HBq.out.size; simp; omega) (fun q hq => (HLq.out.own.lt q hq).1))
                      have HR := Lib.hid (MgK.mk (w := w) (s := s) (k := k + 1) (HMC.out ▸ HL8.out) HB8.out HST.out HBD.out HLL.out HKK.out)
                      clear hne8 own8 hgrow8 HLq own9 x0 x1 x2 hq HXq HKq HL8 HB8 HST HBD HLL HKK HMC
                      go_wp2_with fail
                      go_roundw
                      case rel => exact ⟨k + 1, _, by omega, by go_num, HR⟩
                      case measure => simp [intOf]; omega
                      --@end
              · obtain rfl : n = k := by omega
                have HO := Lib.hid (show o = s.foldl mgC [] by have h := HG.out.2.2.1; rw [List.take_of_length_le (by have := HSN.out; omega)] at h; exact h)
                have HEL := Lib.hid (show o.map Ce.el = foldL (l.map Ce.el) keep by rw [HO.out]; exact ce_fold2 HEA.out HS.out.1 HS.out.2)
                obtain ⟨oa, oc, rfl, hro, hoc, -⟩ := HG.out.1.rat
                have hol := HG.out.2.2.2.2.1
                have HRO := Lib.hid hro
                have HTO := Lib.hid (show TagsAt Ce.tv Ce.keys wr o from fun x hx => (HG.out.1.ky x hx).strs)
                have HBO := Lib.hid (HBM.out.trans (HG.out.2.1.mono HBM.out.size))
                obtain ⟨no, hno⟩ : ∃ z, o.length = z := ⟨_, rfl⟩
                have CF := Lib.hid (fullHas_any oa o no oc wr hno (by omega) HRO.out)
                have HFE := Lib.hid (HF4.out (badC o) (by rw [← HEL.out, ← badC_el]))
                rw [hno]
                have HNO := Lib.hid hno
                generalize badC o = b at *
                clear hno hro hol HG hoc
                go_wp2_with fail
                with_reducible refine CF.out.mono ?_
                rintro e w9 ⟨rfl, b9⟩
                have HB9 := Lib.hid (HBO.out.trans (b9.mono HBO.out.size))
                have HR9 := Lib.hid (HRO.out.below b9)
                have HT9 := Lib.hid (HTO.out.below b9)
                clear b9
                cases b with
                | true =>
                  go_wp2_with fail
                  go_ret2
                  exact FoldOut.no HFE.out (by decide) HB9.out
                | false =>
                  go_wp2_with fail
                  go_ret2
                  exact FoldOut.yes HFE.out HNO.out HR9.out HT9.out HB9.out HEL.out
  · have HFE := Lib.hid (HF1.out hE)
    have hne : (E != 0) = true := by simpa using hE
    have HE0 := Lib.hid hE
    clear hE
    go_wp2_with fail
    go_ret2
    exact FoldOut.no HFE.out HE0.out HB1.out
end Go.Proofs.YtmhnnbffhciinaaDoor
