/- Slices of fractions; contracts of measure.Shares, of the reference SharesOf and of slices.Equal on them. -/
import Derived.Test.YtdnikegakcdcnaaWFault
import Derived.Test.YtdnikegakcdcnaaDivideFn
import Derived.Test.YtdnikegakcdcnaaRef
import Derived.Test.YtdnikegakcdcnaaFrEq
set_option linter.unusedVariables false
namespace Go.Proofs.Ytdnikegakcdcnaa
open Go.RowKit Deal

def fcells (l : List (Int × Int)) : List Value := l.flatMap fun f => [.int .i64 f.1, .int .i64 f.2]
theorem fcells_length (l : List (Int × Int)) : (fcells l).length = l.length * 2 := by
  induction l with
  | nil => rfl
  | cons f l ih => simp only [fcells, List.flatMap_cons, List.length_append, List.length_cons, List.length_nil] at *; omega
theorem fcells_snoc (l : List (Int × Int)) (f : Int × Int) : fcells (l ++ [f]) = fcells l ++ [.int .i64 f.1, .int .i64 f.2] := by simp [fcells]
theorem fcells_get (l : List (Int × Int)) (j : Nat) (hj : j < l.length) : (fcells l)[j * 2]? = some (.int .i64 l[j].1) ∧ (fcells l)[j * 2 + 1]? = some (.int .i64 l[j].2) := by
  induction l generalizing j with
  | nil => simp at hj
  | cons f l ih =>
    have e : fcells (f :: l) = .int .i64 f.1 :: .int .i64 f.2 :: fcells l := by simp [fcells]
    cases j with
    | zero => rw [e]; exact ⟨rfl, rfl⟩
    | succ j =>
      have h := ih j (by simpa using hj)
      rw [e, show (j + 1) * 2 = j * 2 + 1 + 1 by omega, show j * 2 + 1 + 1 + 1 = (j * 2 + 1) + 1 + 1 by omega]
      simpa using h

/-- a slice value that reads as fractions -/
def FrAt (w : World) (a : Option Addr) (l : List (Int × Int)) : Prop :=
  ∀ j (hj : j < l.length), ∃ p off, a = some ⟨p, off, none⟩ ∧ p < w.heap.size ∧ w.cell? ⟨p, off + j * 2, none⟩ = some (.int .i64 l[j].1) ∧ w.cell? ⟨p, off + j * 2 + 1, none⟩ = some (.int .i64 l[j].2)
def FrIs (w : World) (v : Value) (l : List (Int × Int)) : Prop := ∃ a c, v = .slice a l.length c ∧ FrAt w a l
theorem FrIs.nil (w : World) : FrIs w (.slice none 0 0) [] := ⟨none, 0, rfl, fun j hj => by simp at hj⟩
theorem FrAt.below {w w' : World} {a : Option Addr} {l : List (Int × Int)} (h : FrAt w a l) (hb : Below w.heap.size w w') : FrAt w' a l := by
  intro j hj
  obtain ⟨p, off, h1, h2, h3, h4⟩ := h j hj
  exact ⟨p, off, h1, Nat.lt_of_lt_of_le h2 hb.size, (hb.cell (p := ⟨p, off + j * 2, none⟩) h2).trans h3, (hb.cell (p := ⟨p, off + j * 2 + 1, none⟩) h2).trans h4⟩
theorem FrIs.below {w w' : World} {v : Value} {l : List (Int × Int)} (h : FrIs w v l) (hb : Below w.heap.size w w') : FrIs w' v l := by
  obtain ⟨a, c, h1, h2⟩ := h
  exact ⟨a, c, h1, h2.below hb⟩
theorem FrIs.of_own {w : World} {b0 : Nat} {t : TypeId} {v : Value} {l : List (Int × Int)} (h : w.ownsRow b0 t 2 v l.length (fcells l)) : FrIs w v l := by
  rcases h.2 with ⟨rfl, h0⟩ | ⟨g, cap, cur, rfl, hbg, hg, _⟩
  · have : l = [] := List.eq_nil_of_length_eq_zero h0
    subst this
    exact FrIs.nil w
  · refine ⟨_, cap, rfl, fun j hj => ⟨g, 0, rfl, (Array.getElem?_eq_some_iff.1 hg).1, ?_, ?_⟩⟩
    · rw [Nat.zero_add]; exact (h.cellAt (j * 2) (by omega)).trans (fcells_get l j hj).1
    · rw [Nat.zero_add]; exact (h.cellAt (j * 2 + 1) (by omega)).trans (fcells_get l j hj).2

/-- each weight, divided by the sum of all -/
def frL (zs : List Int) : List (Int × Int) := if wE zs = 0 then zs.map fun z => (Frac.redN z zs.sum, Frac.redD z zs.sum) else []
def frT (zs : List Int) (k : Nat) : List (Int × Int) := (zs.take k).map fun z => (Frac.redN z zs.sum, Frac.redD z zs.sum)
theorem frT_succ (zs : List Int) (k : Nat) (hk : k < zs.length) : frT zs (k + 1) = frT zs k ++ [(Frac.redN zs[k] zs.sum, Frac.redD zs[k] zs.sum)] := by
  unfold frT
  rw [List.take_succ_eq_append_getElem hk, List.map_append]
  rfl
theorem frT_len (zs : List Int) (k : Nat) (hk : k ≤ zs.length) : (frT zs k).length = k := by simp [frT]; omega
def SharesOut (w : World) (zs : List Int) (e : Ending) (w' : World) : Prop :=
  ∃ v, e = .returned (.tuple #[v, .int .i64 (wE zs)]) ∧ FrIs w' v (frL zs) ∧ Below w.heap.size w w'
theorem sharesOut_nil {w : World} {zs : List Int} (hk : wE zs ≠ 0) : SharesOut w zs (.returned (.tuple #[.slice none 0 0, .int .i64 (wE zs)])) w := by
  refine ⟨_, rfl, ?_, Below.refl _ _⟩
  unfold frL
  rw [if_neg hk]
  exact FrIs.nil w
theorem sharesOut_ok {w w' : World} {zs : List Int} {v : Value} {k : Nat} (h : wE zs = 0) (hk : zs.length ≤ k) (hI : FrIs w' v (frT zs k)) (hb : Below w.heap.size w w') :
    SharesOut w zs (.returned (.tuple #[v, .int .i64 0])) w' := by
  refine ⟨v, by rw [h], ?_, hb⟩
  unfold frL
  rw [if_pos h]
  unfold frT at hI
  rw [List.take_of_length_le hk] at hI
  exact hI

theorem infoF : (Try.prog.info? 28).map (fun i => (i.zero, i.size, i.bytes)) = some (some (.agg #[.int .i64 0, .int .i64 0]), 2, 16) := by kernel_rfl

set_option maxRecDepth 100000 in
set_option maxHeartbeats 2000000 in
theorem Shares_any (a : Option Addr) (zs : List Int) (n cp : Nat) (w : World) (hn : zs.length = n) (hn1 : n ≤ 1000) (hI : IntsAt w a zs) :
    Calls Try.prog 42 #[.slice a n cp] w (SharesOut w zs) := by
  obtain ⟨i0, hi, hz0, hz1, hz2⟩ := info_parts infoF
  have HN := Lib.hid hn
  have HI := Lib.hid hI
  have HW := Lib.hid (checkWeights_any a zs n cp w hn hn1 hI)
  clear hn hI
  by_cases he : wE zs = 0
  · obtain ⟨h1, hok, hz⟩ := wE_zero he
    have hs := ws_pos hok hz
    have hs2 := ws_sum_le 1000000 _ (ws_le (M := 1000000) hok)
    have HSM := Lib.hid (sumOf_any a zs n cp w HN.out (by omega) HI.out (okL_bd hok))
    have hsum : 1 ≤ zs.sum ∧ zs.sum ≤ 1000000000 := by
      rw [sum_of_ok hok]
      have : (zs.map Int.toNat).length ≤ 12 := by simpa using h1
      omega
    have HOK := Lib.hid hok
    have HE := Lib.hid he
    rw [he] at HW
    have HSS : Hid (zs.sum = zs.sum) := Lib.hid rfl
    clear hs hs2 hz hok h1 he
    generalize hsv : zs.sum = sm at *
    have HSV := Lib.hid hsv
    clear hsv HSS
    go_enter Try.func42, Try.ntmps42
    go_wp2_with fail
    with_reducible refine HW.out.mono ?_
    rintro e w' ⟨rfl, rfl⟩
    go_wp2_with fail
    with_reducible refine HSM.out.mono ?_
    rintro e w' ⟨rfl, rfl⟩
    clear HW HSM
    go_wp2_with fail
    go_loopw [6, 8, 18] (fun v _ i wr => ∃ k : Nat, k ≤ n ∧ i = .int .i64 k ∧ wr.ownsRow w.heap.size 28 2 v k (fcells (frT zs k)) ∧ Below w.heap.size w wr) (fun _ _ i _ => n - (intOf i).toNat)
    case atStart => exact ⟨0, Nat.zero_le _, rfl, World.ownsRow_nil _ _ _ _, Below.refl _ _⟩
    case round =>
      obtain ⟨k, hk, rfl, hrow, hB⟩ := hrel
      have hsz := hB.size
      have HR := Lib.hid hrow
      have HB := Lib.hid hB
      by_cases hlt : k < n
      · have hkz : k < zs.length := by have := HN.out; omega
        obtain ⟨p, off, rfl, hp, hcell⟩ := HI.out.at_ hkz
        have hcell' := (hB.cell (p := ⟨p, off + k, none⟩) hp).trans hcell
        have zb := okL_mem HOK.out (List.getElem_mem hkz)
        have HF := Lib.hid (frT_succ zs k hkz)
        rw [HSV.out] at HF
        clear hrow hB hcell
        generalize zs[k] = z at *
        go_wp2_with fail
        with_reducible refine (reduce_any z sm _ (by omega) (by omega) (by omega) (by omega) (by omega)).mono ?_
        rintro e w1 ⟨rfl, b1⟩
        simp only [fr]
        have own1 : w1.ownsRow w.heap.size 28 2 _ k (fcells (frT zs k)) := HR.out.kept (grown_of_below b1 none) none_ok
        have HB1 := Lib.hid (HB.out.trans (b1.mono hsz))
        have hsz1 := HB1.out.size
        clear b1 HR HB
        generalize Frac.redN z sm = f1 at *
        generalize Frac.redD z sm = f2 at *
        go_wp2_with (at_builtin; refine wpList_append_own _ rfl _ _ 55 rfl w.heap.size 28 i0 (.agg #[.int .i64 0, .int .i64 0]) 2 16 Try.underlying55 hi hz0 hz1 hz2 rfl (by decide) _ _ _ rfl (own1.alloc _) ⟨w1.heap.size, 0, none⟩ 1 1 [.int .i64 f1, .int .i64 f2] rfl rfl ?c1 ?c2 ?c3 ?c4 ?c5 ?_)
        case c1 => exact World.news_of_block (cs := #[.int .i64 f1, .int .i64 f2]) (t := 28) (fr := (0, 0)) (heap_alloc_new w1 _)
        case c2 => simp [Value.oneCell']
        case c3 => unfold maxLen; omega
        case c4 => omega
        case c5 => simp; omega
        intro v2 w2 own2 hgrow2 hne2
        have HO2 := Lib.hid (show w2.ownsRow w.heap.size 28 2 v2 (k + 1) (fcells (frT zs (k + 1))) by rw [HF.out, fcells_snoc]; exact own2)
        have HB2 := Lib.hid ((HB1.out.alloc (by omega) _).grown hgrow2 (by simp; omega) (fun q hq => (own1.lt q hq).1))
        clear own2 hgrow2 hne2 own1 HB1
        go_wp2
        go_roundw
        case rel => exact ⟨k + 1, by omega, by go_num, HO2.out, HB2.out⟩
        case measure => simp [intOf]; omega
      · have HF := Lib.hid (FrIs.of_own (by rw [frT_len zs k (by have := HN.out; omega)]; exact hrow))
        clear hrow hB
        go_wp2
        go_ret2
        exact sharesOut_ok HE.out (by have := HN.out; omega) HF.out HB.out
  · have he' : (wE zs != 0) = true := by simp [he]
    have HX := Lib.hid (sharesOut_nil (w := w) he)
    generalize hee : wE zs = ee at *
    clear hee
    go_enter Try.func42, Try.ntmps42
    go_wp2_with fail
    with_reducible refine HW.out.mono ?_
    rintro e w' ⟨rfl, rfl⟩
    go_wp2
    go_ret2
    exact HX.out
end Go.Proofs.Ytdnikegakcdcnaa
