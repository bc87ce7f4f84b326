/- The contract of the reference SharesOf; slices.Equal on slices of fractions. -/
import Derived.Test.YtdnikegakcdcnaaFracs
set_option linter.unusedVariables false
namespace Go.Proofs.Ytdnikegakcdcnaa
open Go.RowKit Deal

set_option maxRecDepth 100000 in
set_option maxHeartbeats 2000000 in
theorem SharesOf_any (a : Option Addr) (zs : List Int) (n cp : Nat) (w : World) (hn : zs.length = n) (hn1 : n ≤ 1000) (hI : IntsAt w a zs) :
    Calls Try.prog 43 #[.slice a n cp] w (SharesOut w zs) := by
  obtain ⟨i0, hi, hz0, hz1, hz2⟩ := info_parts infoF
  have HN := Lib.hid hn
  have HI := Lib.hid hI
  have HW := Lib.hid (weightsFault_any a zs n cp w hn hn1 hI)
  clear hn hI
  by_cases he : wE zs = 0
  · obtain ⟨h1, hok, hz⟩ := wE_zero he
    have hs := ws_pos hok hz
    have hs2 := ws_sum_le 1000000 _ (ws_le (M := 1000000) hok)
    have HSM := Lib.hid (fun w' (h : IntsAt w' a zs) => total_any a zs n cp w' HN.out (by omega) h (okL_bd hok))
    have hsum : 1 ≤ zs.sum ∧ zs.sum ≤ 1000000000 := by
      rw [sum_of_ok hok]
      have : (zs.map Int.toNat).length ≤ 12 := by simpa using h1
      omega
    have HOK := Lib.hid hok
    have HE := Lib.hid he
    rw [he] at HW
    have HSS : Hid (zs.sum = zs.sum) := Lib.hid rfl
    clear hs hs2 hz hok h1 he
    generalize hsv : zs.sum = sm at *
    have HSV := Lib.hid hsv
    clear hsv HSS
    go_enter Try.func43, Try.ntmps43
    go_wp2_with fail
    with_reducible refine HW.out.mono ?_
    rintro e w' ⟨rfl, rfl⟩
    clear HW
    go_wp2_with fail
    go_loopw [5, 7, 15] (fun v _ i wr => ∃ k : Nat, k ≤ n ∧ i = .int .i64 k ∧ wr.ownsRow w.heap.size 28 2 v k (fcells (frT zs k)) ∧ Below w.heap.size w wr) (fun _ _ i _ => n - (intOf i).toNat)
    case atStart => exact ⟨0, Nat.zero_le _, rfl, World.ownsRow_nil _ _ _ _, Below.refl _ _⟩
    case round =>
      obtain ⟨k, hk, rfl, hrow, hB⟩ := hrel
      have hsz := hB.size
      have HR := Lib.hid hrow
      have HB := Lib.hid hB
      by_cases hlt : k < n
      · have hkz : k < zs.length := by have := HN.out; omega
        obtain ⟨p, off, rfl, hp, hcell⟩ := HI.out.at_ hkz
        have hcell' := (hB.cell (p := ⟨p, off + k, none⟩) hp).trans hcell
        have zb := okL_mem HOK.out (List.getElem_mem hkz)
        have HF := Lib.hid (frT_succ zs k hkz)
        rw [HSV.out] at HF
        clear hrow hB hcell
        generalize zs[k] = z at *
        go_wp2_with fail
        with_reducible refine (HSM.out _ (HI.out.below HB.out)).mono ?_
        rintro e w' ⟨rfl, rfl⟩
        go_wp2_with fail
        with_reducible refine (reduced_any z sm _ (by omega) (by omega) (by omega) (by omega) (by omega)).mono ?_
        rintro e w1 ⟨rfl, b1⟩
        have own1 : w1.ownsRow w.heap.size 28 2 _ k (fcells (frT zs k)) := HR.out.kept (grown_of_below b1 none) none_ok
        have HB1 := Lib.hid (HB.out.trans (b1.mono hsz))
        have hsz1 := HB1.out.size
        clear b1 HR HB
        generalize Frac.redN z sm = f1 at *
        generalize Frac.redD z sm = f2 at *
        go_wp2_with (at_builtin; refine wpList_append_own _ rfl _ _ 55 rfl w.heap.size 28 i0 (.agg #[.int .i64 0, .int .i64 0]) 2 16 Try.underlying55 hi hz0 hz1 hz2 rfl (by decide) _ _ _ rfl (own1.alloc _) ⟨w1.heap.size, 0, none⟩ 1 1 [.int .i64 f1, .int .i64 f2] rfl rfl ?c1 ?c2 ?c3 ?c4 ?c5 ?_)
        case c1 => exact World.news_of_block (cs := #[.int .i64 f1, .int .i64 f2]) (t := 28) (fr := (0, 0)) (heap_alloc_new w1 _)
        case c2 => simp [Value.oneCell']
        case c3 => unfold maxLen; omega
        case c4 => omega
        case c5 => simp; omega
        intro v2 w2 own2 hgrow2 hne2
        have HO2 := Lib.hid (show w2.ownsRow w.heap.size 28 2 v2 (k + 1) (fcells (frT zs (k + 1))) by rw [HF.out, fcells_snoc]; exact own2)
        have HB2 := Lib.hid ((HB1.out.alloc (by omega) _).grown hgrow2 (by simp; omega) (fun q hq => (own1.lt q hq).1))
        clear own2 hgrow2 hne2 own1 HB1
        go_wp2
        go_roundw
        case rel => exact ⟨k + 1, by omega, by go_num, HO2.out, HB2.out⟩
        case measure => simp [intOf]; omega
      · have HF := Lib.hid (FrIs.of_own (by rw [frT_len zs k (by have := HN.out; omega)]; exact hrow))
        clear hrow hB
        go_wp2
        go_ret2
        exact sharesOut_ok HE.out (by have := HN.out; omega) HF.out HB.out
  · have he' : (wE zs != 0) = true := by simp [he]
    have HX := Lib.hid (sharesOut_nil (w := w) he)
    generalize hee : wE zs = ee at *
    clear hee
    go_enter Try.func43, Try.ntmps43
    go_wp2_with fail
    with_reducible refine HW.out.mono ?_
    rintro e w' ⟨rfl, rfl⟩
    go_wp2
    go_ret2
    exact HX.out

theorem equal_fracs (w : World) (v v' : Value) (l : List (Int × Int)) (h : FrIs w v l) (h' : FrIs w v' l) (hl : l.length ≤ 1000) :
    Calls Try.prog 44 #[v, v'] w fun e w' => e = .returned (.bool true) ∧ ∃ q, w' = w.drewN q := by
  have hE := fun a b c d (w : World) => fr_neq a b c d w
  have hG := fun x y xs ys (w : World) => fr_guard .neq x y xs ys w
  obtain ⟨a, c, rfl, hI⟩ := h
  obtain ⟨b, d, rfl, hJ⟩ := h'
  have HI := Lib.hid hI
  have HJ := Lib.hid hJ
  clear hI hJ
  generalize hn : l.length = n at *
  have HN := Lib.hid hn
  clear hn
  go_enter Try.func44, Try.ntmps44
  go_wp2_with fail
  go_loopw [13] (fun i wr => ∃ k q : Nat, k ≤ n ∧ i = .int .i64 k ∧ wr = w.drewN q) (fun i _ => n - (intOf i).toNat)
  case atStart => exact ⟨0, 0, Nat.zero_le _, rfl, rfl⟩
  case round =>
    obtain ⟨k, q, hk, rfl, rfl⟩ := hrel
    by_cases hlt : k < n
    · have hkz : k < l.length := by have := HN.out; omega
      obtain ⟨p1, o1, rfl, -, c1, c2⟩ := HI.out k hkz
      obtain ⟨p2, o2, rfl, -, c3, c4⟩ := HJ.out k hkz
      have d1 : (w.drewN q).cell? ⟨p1, o1 + k * 2, none⟩ = some (.int .i64 l[k].1) := c1
      have d2 : (w.drewN q).cell? ⟨p1, o1 + k * 2 + 1, none⟩ = some (.int .i64 l[k].2) := c2
      have d3 : (w.drewN q).cell? ⟨p2, o2 + k * 2, none⟩ = some (.int .i64 l[k].1) := c3
      have d4 : (w.drewN q).cell? ⟨p2, o2 + k * 2 + 1, none⟩ = some (.int .i64 l[k].2) := c4
      have hk0 : (0 : Int) ≤ k := by omega
      have hk1 : (k : Int) < n := by omega
      generalize l[k].1 = x at *
      generalize l[k].2 = y at *
      have hb : (!(x == x && y == y)) = false := by simp
      clear c1 c2 c3 c4
      generalize hwq : w.drewN q = wq at *
      have HWQ := Lib.hid hwq
      clear hwq
      go_wp2_with fail
      go_quiet (fail)
      go_wp2
      go_roundw
      case rel => exact ⟨k + 1, _, by omega, by go_num, by rw [← HWQ.out, World.drewN_drewN]⟩
      case measure => simp [intOf]; omega
    · go_wp2
      go_ret
      exact ⟨rfl, q, rfl⟩
end Go.Proofs.Ytdnikegakcdcnaa
