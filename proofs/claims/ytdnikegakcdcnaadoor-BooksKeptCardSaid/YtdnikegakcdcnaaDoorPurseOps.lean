/- What both purses do alike: budgetOf, taken, NewPurse, Left (printed by gen_purse.py). -/
import Derived.Test.YtdnikegakcdcnaaDoorPurse
import Derived.Test.YtdnikegakcdcnaaDoorMulDiv
import Derived.Test.YtdnikegakcdcnaaDoorMeasure
set_option linter.unusedVariables false
namespace Go.Proofs.YtdnikegakcdcnaaDoor
open Go.RowKit

theorem eqS_spell (x s : ByteArray) : (x.toList == s.toList) = eqS x s := by
  rw [Lib.toList_data, Lib.toList_data, Bool.eq_iff_iff, beq_iff_eq]
  unfold eqS
  rw [decide_eq_true_eq]
/-- a purse that was just made -/
def PuNew (w : World) (t : TypeId) (bl : List Bd) (g : Nat) (w' : World) : Prop :=
  ∃ ba bc, w'.heap[g]? = some (.cells #[.slice ba bl.length bc, .slice none 0 0, .int .i64 0] t (0, 0)) ∧ RAt w' ba 5 Bd.cells bl ∧ bl.length ≤ bc ∧ bc ≤ maxLen ∧ (∀ p off, ba = some ⟨p, off, none⟩ → w.heap.size ≤ p ∧ p < g) ∧ w.heap.size ≤ g
theorem PuNew.of_own {w w1 : World} {t : TypeId} {bl : List Bd} {v : Value} (h : w1.ownsRow w.heap.size 81 5 v bl.length (bl.flatMap Bd.cells)) (hb : Below w.heap.size w w1) :
    PuNew w t bl w1.heap.size (w1.alloc (.cells #[v, .slice none 0 0, .int .i64 0] t)) := by
  obtain ⟨a, c, rfl, hI, hc, hcm⟩ := RAt.of_own h (fun x _ => x.len)
  refine ⟨a, c, heap_alloc_new _ _, hI.alloc _, hc, hcm, fun p off e => ?_, hb.size⟩
  subst e
  exact h.lt p (by simp [Value.ownBlock])
theorem getD_at (l : List Bd) (i : Nat) (h : i < l.length) : l.getD i zeroBd = l[i] := by
  rw [List.getD_eq_getElem?_getD, List.getElem?_eq_getElem h]; rfl
theorem tkV_drop (l : List Hd) (key : ByteArray) (t : Int) (k : Nat) (h : k < l.length) : tkV (l.take (k + 1)) key t = tkV (l.take k) key t + (if tkB l[k] key t = true then l[k].cents else 0) := by
  rw [List.take_succ_eq_append_getElem h, tkV_app]
  simp [tkV]
/-- what Left gives -/
def leftV (bl : List Bd) (hl : List Hd) (now : Int) (key : ByteArray) (t : Int) : Int × Int :=
  if bdAt bl key < 0 then (0, 8) else if momB t = false then (0, 1) else if t < now then (0, 7) else (max (pacV (bdGet bl key) t - tkV hl key t) 0, 0)

set_option maxRecDepth 100000 in
set_option maxHeartbeats 4000000 in
theorem budgetOfOff_any {b0 : Nat} {gs : List Nat} {g : Nat} {bl : List Bd} {hv : Value} {hl : List Hd} {now : Int} (key : ByteArray) (w : World) (hP : Pu b0 gs 166 g bl hv hl now w) (hn : bl.length ≤ 50) (hk : key.size ≤ 1000) :
    Calls Tryd.prog 131 #[.pointer (some ⟨g, 0, none⟩), .string key] w fun e w' => e = .returned (.tuple #[.agg #[.string (bdGet bl key).key, .int .i64 (bdGet bl key).cents, .int .i64 (bdGet bl key).first, .int .i64 (bdGet bl key).last, .bool (bdGet bl key).pace], .bool (decide (0 ≤ bdAt bl key))]) ∧ Below w.heap.size w w' := by
  obtain ⟨ba, bc, p0, p1, p2, hgl, hI, -, -⟩ := hP.cells
  have hbd := bdAt_bd bl key
  have HG := Lib.hid (show bdGet bl key = if bdAt bl key < 0 then zeroBd else bl.getD (bdAt bl key).toNat zeroBd from rfl)
  have HX0 := Lib.hid (XB.new w [.string key] 9)
  have HB0 := Lib.hid ((Below.refl w.heap.size w).alloc (Nat.le_refl _) (.cells #[.string key] 9))
  have HB1 := Lib.hid (HB0.out.alloc HB0.out.size (.cells #[.string ⟨#[]⟩, .int .i64 0, .int .i64 0, .int .i64 0, .bool false] 81))
  have HX1 := Lib.hid (HX0.out.alloc (.cells #[.string ⟨#[]⟩, .int .i64 0, .int .i64 0, .int .i64 0, .bool false] 81))
  have HI1 := Lib.hid (hI.below HB1.out)
  have HZ := Lib.hid (show ((w.alloc (.cells #[.string key] 9)).alloc (.cells #[.string ⟨#[]⟩, .int .i64 0, .int .i64 0, .int .i64 0, .bool false] 81)).heap[w.heap.size + 1]? = some (.cells #[.string ⟨#[]⟩, .int .i64 0, .int .i64 0, .int .i64 0, .bool false] 81 (0, 0)) by
    have h := heap_alloc_new (w.alloc (.cells #[.string key] 9)) (.cells #[.string ⟨#[]⟩, .int .i64 0, .int .i64 0, .int .i64 0, .bool false] 81)
    rw [World.size_alloc] at h
    exact h)
  have HSZ := Lib.hid (show ((w.alloc (.cells #[.string key] 9)).alloc (.cells #[.string ⟨#[]⟩, .int .i64 0, .int .i64 0, .int .i64 0, .bool false] 81)).heap.size = w.heap.size + 1 + 1 by simp)
  have HC0 := Lib.hid ((HB1.out.cell (p := ⟨g, 0, none⟩) hgl).trans p0)
  simp only [List.toArray] at HX0 HX1
  have HF := Lib.hid (show bdAt bl key = idxG (bl.map Bd.key) key from rfl)
  clear hP hI p1 p2
  generalize bdGet bl key = G at *
  obtain ⟨D, hD⟩ : ∃ D, bdAt bl key = D := ⟨_, rfl⟩
  rw [hD] at hbd HG HF ⊢
  clear hD
  go_enter Tryd.func131, Tryd.ntmps131
  go_wp2_with fail
  have hq : (((w.alloc (.cells #[.string key] 9)).alloc (.cells #[.string ⟨#[]⟩, .int .i64 0, .int .i64 0, .int .i64 0, .bool false] 81))).cell? ⟨w.heap.size, 0, none⟩ = some (.string key) := HX1.out.2 0 _ rfl
  have C := Lib.hid (budOfIdx_any ba bl bl.length bc w.heap.size key _ rfl (by omega) HI1.out hq)
  rw [← HF.out] at C
  clear hq
  generalize hw1 : (w.alloc (.cells #[.string key] 9)).alloc (.cells #[.string ⟨#[]⟩, .int .i64 0, .int .i64 0, .int .i64 0, .bool false] 81) = w1 at *
  clear hw1
  with_reducible refine C.out.mono ?_
  rintro e w2 ⟨rfl, b2⟩
  have HI2 := Lib.hid (HI1.out.below b2)
  have hz := HSZ.out
  have hz2 := (b2.block (w.heap.size + 1) (by omega)).trans HZ.out
  have e0 : w2.cell? ⟨w.heap.size + 1, 0, none⟩ = some (.string ⟨#[]⟩) := by simp [World.cell?, hz2]
  have e1 : w2.cell? ⟨w.heap.size + 1, 1, none⟩ = some (.int .i64 0) := by simp [World.cell?, hz2]
  have e2 : w2.cell? ⟨w.heap.size + 1, 2, none⟩ = some (.int .i64 0) := by simp [World.cell?, hz2]
  have e3 : w2.cell? ⟨w.heap.size + 1, 3, none⟩ = some (.int .i64 0) := by simp [World.cell?, hz2]
  have e4 : w2.cell? ⟨w.heap.size + 1, 4, none⟩ = some (.bool false) := by simp [World.cell?, hz2]
  have f0 : w2.frozen? ⟨w.heap.size + 1, 0, none⟩ = false := by simp [World.frozen?, hz2]
  have f1 : w2.frozen? ⟨w.heap.size + 1, 1, none⟩ = false := by simp [World.frozen?, hz2]
  have f2 : w2.frozen? ⟨w.heap.size + 1, 2, none⟩ = false := by simp [World.frozen?, hz2]
  have f3 : w2.frozen? ⟨w.heap.size + 1, 3, none⟩ = false := by simp [World.frozen?, hz2]
  have f4 : w2.frozen? ⟨w.heap.size + 1, 4, none⟩ = false := by simp [World.frozen?, hz2]
  have HB2 := Lib.hid (HB1.out.trans (b2.mono (by omega)))
  have hc0 : w2.cell? ⟨g, 0, none⟩ = some (.slice ba bl.length bc) := (b2.cell (p := ⟨g, 0, none⟩) (by show g < _; omega)).trans HC0.out
  clear hz hz2 b2 C HSZ HZ HI1 HX0 HX1 HB0 HB1 HC0
  by_cases hneg : D < 0
  · obtain rfl : G = zeroBd := HG.out.trans (if_pos hneg)
    have HDD := Lib.hid (show decide (0 ≤ D) = false from decide_eq_false (by omega))
    go_wp2_with fail
    refine bodyPost_ret (v := .tuple #[.agg #[.string ⟨#[]⟩, .int .i64 0, .int .i64 0, .int .i64 0, .bool false], .bool false]) (by simp [results, Tryd.results131, go_sem, e0, e1, e2, e3, e4]) rfl ⟨by rw [HDD.out]; rfl, ?_⟩
    exact ((((HB2.out.setCell (by show w.heap.size ≤ w.heap.size + 1; omega) _).setCell (by show w.heap.size ≤ w.heap.size + 1; omega) _).setCell (by show w.heap.size ≤ w.heap.size + 1; omega) _).setCell (by show w.heap.size ≤ w.heap.size + 1; omega) _).setCell (by show w.heap.size ≤ w.heap.size + 1; omega) _
  · obtain ⟨i, rfl⟩ := Int.eq_ofNat_of_zero_le (show 0 ≤ D by omega)
    have hil : i < bl.length := by omega
    have HG2 := Lib.hid (HG.out.trans (if_neg hneg))
    rw [Int.toNat_natCast, getD_at bl i hil] at HG2
    obtain ⟨p, off, rfl, hpl, c0, c1, c2, c3, c4⟩ := HI2.out.at5 hil (v0 := .string bl[i].key) (v1 := .int .i64 bl[i].cents) (v2 := .int .i64 bl[i].first) (v3 := .int .i64 bl[i].last) (v4 := .bool bl[i].pace) rfl
    rw [← HG2.out] at c0 c1 c2 c3 c4
    have HDD := Lib.hid (show decide ((0 : Int) ≤ (i : Int)) = true from decide_eq_true (by omega))
    clear HG HG2 HF hbd HI2
    have hil2 : i < bl.length := hil
    obtain ⟨key', cents, first, last, pace⟩ := G
    simp only at c0 c1 c2 c3 c4
    go_wp2_with fail
    refine bodyPost_ret (v := .tuple #[.agg #[.string key', .int .i64 cents, .int .i64 first, .int .i64 last, .bool pace], .bool true]) (by simp [results, Tryd.results131, go_sem, e0, e1, e2, e3, e4]) rfl ⟨rfl, ?_⟩
    exact ((((HB2.out.setCell (by show w.heap.size ≤ w.heap.size + 1; omega) _).setCell (by show w.heap.size ≤ w.heap.size + 1; omega) _).setCell (by show w.heap.size ≤ w.heap.size + 1; omega) _).setCell (by show w.heap.size ≤ w.heap.size + 1; omega) _).setCell (by show w.heap.size ≤ w.heap.size + 1; omega) _

set_option maxRecDepth 100000 in
set_option maxHeartbeats 4000000 in
theorem takenOff_any {b0 : Nat} {gs : List Nat} {g : Nat} {bl : List Bd} {hv : Value} {hl : List Hd} {now : Int} (key : ByteArray) (t : Int) (w : World) (hP : Pu b0 gs 166 g bl hv hl now w) (hn : hl.length ≤ 1000) (hok : ∀ x ∈ hl, x.ok) :
    Calls Tryd.prog 132 #[.pointer (some ⟨g, 0, none⟩), .string key, .int .i64 t] w fun e w' => e = .returned (.int .i64 (tkV hl key t)) ∧ Below w.heap.size w w' := by
  obtain ⟨ba, bc, p0, p1, p2, hgl, -, -, -⟩ := hP.cells
  obtain ⟨ha, hc, rfl, hI, -, -⟩ := hP.holds
  have HI := Lib.hid hI
  have HOK := Lib.hid hok
  have HT0 := Lib.hid (show tkV (hl.take 0) key t = 0 by rw [List.take_zero]; rfl)
  obtain ⟨n, hnn⟩ : ∃ n, hl.length = n := ⟨_, rfl⟩
  rw [hnn] at p1 hn
  have HN := Lib.hid hnn
  have HTL := Lib.hid (show tkV (hl.take n) key t = tkV hl key t by rw [← hnn, List.take_length])
  clear hP hI hok p0 p2 hnn
  go_enter Tryd.func132, Tryd.ntmps132
  go_wp2_with fail
  go_loopw [7, 9, 10, 16] (fun s _ _ i wr => ∃ (k : Nat) (z : Int), k ≤ n ∧ i = .int .i64 k ∧ s = .int .i64 z ∧ z = tkV (hl.take k) key t ∧ Below w.heap.size w wr) (fun _ _ _ i _ => n - (intOf i).toNat)
  case atStart => exact ⟨0, 0, Nat.zero_le _, rfl, rfl, HT0.out.symm, Below.refl _ _⟩
  case round =>
    obtain ⟨k, z, hk, rfl, rfl, hz, hB⟩ := hrel
    by_cases hlt : k < n
    · have hkl : k < hl.length := by have := HN.out; omega
      obtain ⟨p, off, rfl, hp, c0, c1, c2, c3, c4, c5⟩ := (HI.out.below hB).at6 hkl (v0 := .int .i64 hl[k].no) (v1 := .string hl[k].key) (v2 := .int .i64 hl[k].cents) (v3 := .int .i64 hl[k].at_) (v4 := .int .i64 hl[k].until_) (v5 := .int .i64 hl[k].state) rfl
      obtain ⟨o1, o2, o3, o4, o5, o6, o7⟩ := HOK.out hl[k] (List.getElem_mem hkl)
      have HS := Lib.hid (tkV_drop hl key t k hkl)
      have hzb := tkV_bd (hl.take k) key t (fun x hx => HOK.out x (List.mem_of_mem_take hx))
      have hlk : ((hl.take k).length : Int) ≤ 1000 := by rw [List.length_take]; omega
      rw [← hz] at HS hzb
      have hz0 : 0 ≤ z := hzb.1
      have hz1 : z ≤ 2000000000000000 := by have := hzb.2; omega
      have C := Lib.hid (fun w => stateAt_any hl[k] t w)
      have HTK := Lib.hid (show tkB hl[k] key t = (eqS hl[k].key key && (decide (stV hl[k] t = 1) || decide (stV hl[k] t = 2))) from rfl)
      have hsp := eqS_spell hl[k].key key
      generalize tkB hl[k] key t = tb at *
      generalize stV hl[k] t = st at *
      generalize eqS hl[k].key key = eb at *
      generalize hl[k] = x at *
      obtain ⟨no, hkey, cents, at_, until_, state⟩ := x
      simp only at c0 c1 c2 c3 c4 c5 o2 o3 hsp C HS
      have HX := Lib.hid (XB.new wr [.int .i64 no, .string hkey, .int .i64 cents, .int .i64 at_, .int .i64 until_, .int .i64 state] 94)
      have HB := Lib.hid (hB.alloc hB.size (.cells #[.int .i64 no, .string hkey, .int .i64 cents, .int .i64 at_, .int .i64 until_, .int .i64 state] 94))
      clear hz hzb hlk hB o1 o4 o5 o6 o7
      go_wp2_with fail
      with_reducible refine (C.out _).mono ?_
      rintro e w1 ⟨rfl, b1⟩
      have HB1 := Lib.hid (HB.out.trans (b1.mono HB.out.size))
      obtain ⟨x0, x1, x2, x3, x4, x5⟩ := (HX.out.below b1).at6
      clear b1 HB HX C
      cases eb with
      | false =>
        obtain rfl : tb = false := HTK.out.trans (by simp)
        have HR := Lib.hid (HS.out.trans (show _ = z by simp))
        go_wp2_with fail
        go_roundw
        case rel => exact ⟨k + 1, z, by omega, by go_num, rfl, HR.out.symm, HB1.out⟩
        case measure => simp [intOf]; omega
      | true =>
        by_cases h1 : st = 1
        · obtain rfl : tb = true := HTK.out.trans (by simp [h1])
          have HR := Lib.hid (HS.out.trans (show _ = z + cents by simp))
          subst h1
          go_wp2_with fail
          go_roundw
          case rel => exact ⟨k + 1, z + cents, by omega, by go_num, rfl, HR.out.symm, HB1.out⟩
          case measure => simp [intOf]; omega
        · have hd1 : (st == 1) = false := by simpa using h1
          by_cases h2 : st = 2
          · obtain rfl : tb = true := HTK.out.trans (by simp [h2])
            have HR := Lib.hid (HS.out.trans (show _ = z + cents by simp))
            subst h2
            go_wp2_with fail
            go_roundw
            case rel => exact ⟨k + 1, z + cents, by omega, by go_num, rfl, HR.out.symm, HB1.out⟩
            case measure => simp [intOf]; omega
          · have hd2 : (st == 2) = false := by simpa using h2
            obtain rfl : tb = false := HTK.out.trans (by simp [h1, h2])
            have HR := Lib.hid (HS.out.trans (show _ = z by simp))
            go_wp2_with fail
            go_roundw
            case rel => exact ⟨k + 1, z, by omega, by go_num, rfl, HR.out.symm, HB1.out⟩
            case measure => simp [intOf]; omega
    · obtain rfl : k = n := by omega
      have HZ := Lib.hid (hz.trans HTL.out)
      clear hz
      go_wp2_with fail
      go_ret
      exact ⟨ret_int HZ.out, hB⟩

set_option maxRecDepth 100000 in
set_option maxHeartbeats 4000000 in
theorem leftOff_any {b0 : Nat} {gs : List Nat} {g : Nat} {bl : List Bd} {hv : Value} {hl : List Hd} {now : Int} (key : ByteArray) (t : Int) (w : World) (hP : Pu b0 gs 166 g bl hv hl now w) (hb : bl.length ≤ 50) (hbl : ∀ x ∈ bl, bdB x = true) (hk : key.size ≤ 1000) (hn : hl.length ≤ 1000) (hok : ∀ x ∈ hl, x.ok) :
    Calls Tryd.prog 65 #[.pointer (some ⟨g, 0, none⟩), .string key, .int .i64 t] w fun e w' => e = .returned (.tuple #[.int .i64 (leftV bl hl now key t).1, .int .i64 (leftV bl hl now key t).2]) ∧ Below w.heap.size w w' := by
  obtain ⟨O, hO⟩ : ∃ O, leftV bl hl now key t = O := ⟨_, rfl⟩
  rw [hO]
  have HO := Lib.hid hO.symm
  unfold leftV at HO
  clear hO
  have HP := Lib.hid hP
  have HBL := Lib.hid (fun h => hbl _ (bdGet_mem (l := bl) (key := key) h))
  have HOK := Lib.hid hok
  have CB := Lib.hid (fun w (h : Pu b0 gs 166 g bl hv hl now w) => budgetOfOff_any key w h hb hk)
  have CT := Lib.hid (fun w (h : Pu b0 gs 166 g bl hv hl now w) => takenOff_any key t w h hn hok)
  have htb := tkV_bd hl key t hok
  clear hP hbl hok
  generalize bdAt bl key = D at *
  generalize tkV hl key t = T at *
  generalize bdGet bl key = G at *
  obtain ⟨htb0, htb1⟩ := htb
  have htb2 : T ≤ 2000000000000000 := by omega
  clear htb1
  go_enter Tryd.func65, Tryd.ntmps65
  go_wp2_with fail
  with_reducible refine (CB.out _ HP.out).mono ?_
  rintro e w1 ⟨rfl, b1⟩
  have HP1 := Lib.hid (HP.out.below b1)
  have HX := Lib.hid (XB.new w1 [.string G.key, .int .i64 G.cents, .int .i64 G.first, .int .i64 G.last, .bool G.pace] 81)
  have HB := Lib.hid ((b1.alloc b1.size (.cells #[.string G.key, .int .i64 G.cents, .int .i64 G.first, .int .i64 G.last, .bool G.pace] 81)))
  have HP2 := Lib.hid (HP1.out.below ((Below.refl _ _).alloc (Nat.le_refl _) (.cells #[.string G.key, .int .i64 G.cents, .int .i64 G.first, .int .i64 G.last, .bool G.pace] 81)))
  simp only [List.toArray] at HX
  clear b1 CB HP HP1
  by_cases hD : D < 0
  · obtain rfl : O = (0, 8) := HO.out.trans (if_pos hD)
    have hd : decide (0 ≤ D) = false := decide_eq_false (by omega)
    rw [hd]
    go_wp2_with fail
    go_ret2
    exact ⟨rfl, HB.out⟩
  · have hd : decide (0 ≤ D) = true := decide_eq_true (by omega)
    rw [hd]
    have HO1 := Lib.hid (HO.out.trans (if_neg hD))
    have hbb := HBL.out (by omega)
    have HBB := Lib.hid hbb
    clear HO hbb HBL hd
    go_wp2_with fail
    with_reducible refine (omoment_any _ _).mono ?_
    rintro e w2 ⟨rfl, rfl⟩
    by_cases hm : 0 ≤ t ∧ t ≤ 4321439
    · have hmb : momB t = true := decide_eq_true hm
      have HO2 := Lib.hid (HO1.out.trans (if_neg (by rw [hmb]; decide)))
      rw [hmb]
      obtain ⟨m0, m1⟩ := hm
      clear hmb HO1
      obtain ⟨ba, bc, -, p1, p2, hgl, -, -, -⟩ := HP2.out.cells
      by_cases hnow : t < now
      · obtain rfl : O = (0, 7) := HO2.out.trans (if_pos hnow)
        go_wp2_with fail
        go_ret2
        exact ⟨rfl, HB.out⟩
      · have HO3 := Lib.hid (HO2.out.trans (if_neg hnow))
        have hpv := pacV_bd G t HBB.out m0 m1
        have CP := Lib.hid (fun w => paced_any G t w HBB.out m0 m1)
        generalize pacV G t = V at *
        obtain ⟨hp0, hp1⟩ := hpv
        generalize hw1 : w1.alloc (.cells #[.string G.key, .int .i64 G.cents, .int .i64 G.first, .int .i64 G.last, .bool G.pace] 81) = w3 at *
        obtain ⟨x0, x1, x2, x3, x4⟩ := HX.out.at5
        have HW := Lib.hid hw1
        clear hw1 HO2
        generalize hq : w1.heap.size = q at *
        have HQ := Lib.hid hq
        clear hq
        go_wp2_with fail
        with_reducible refine (CP.out _).mono ?_
        rintro e w4 ⟨rfl, b4⟩
        have HP4 := Lib.hid (HP2.out.below b4)
        have HB4 := Lib.hid (HB.out.trans (b4.mono HB.out.size))
        clear b4 HP2 HB p1 p2 x0 x1 x2 x3 x4
        go_wp2_with fail
        with_reducible refine (CT.out _ HP4.out).mono ?_
        rintro e w5 ⟨rfl, b5⟩
        have HB5 := Lib.hid (HB4.out.trans (b5.mono HB4.out.size))
        go_wp2_with fail
        go_ret2
        exact ⟨by rw [HO3.out]; rfl, HB5.out⟩
    · have hmb : momB t = false := decide_eq_false hm
      obtain rfl : O = (0, 1) := HO1.out.trans (if_pos hmb)
      rw [hmb]
      go_wp2_with fail
      go_ret2
      exact ⟨rfl, HB.out⟩

set_option maxHeartbeats 2000000 in
theorem newOff_no (a : Option Addr) (l : List Bd) (n c : Nat) (w : World) (hn : l.length = n) (hn1 : n ≤ 50) (hc : n ≤ c) (hc' : c ≤ maxLen) (hI : RAt w a 5 Bd.cells l) (hok : ∀ x ∈ l, x.ok) (hE : budE l ≠ 0) :
    Calls Tryd.prog 56 #[.slice a n c] w fun e w' => e = .returned (.tuple #[.pointer none, .int .i64 (budE l)]) ∧ Below w.heap.size w w' := by
  have C := Lib.hid (CheckBudgets_any a l n c w hn hn1 hc hc' hI hok)
  clear hn hI hok
  generalize budE l = E at *
  go_enter Tryd.func56, Tryd.ntmps56
  go_wp2_with fail
  with_reducible refine C.out.mono ?_
  rintro e w1 ⟨rfl, b1⟩
  go_wp2_with fail
  go_ret2
  exact ⟨rfl, b1⟩
set_option maxHeartbeats 2000000 in
theorem newOff_yes (a : Option Addr) (l : List Bd) (n c : Nat) (w : World) (hn : l.length = n) (hn1 : n ≤ 50) (hc : n ≤ c) (hc' : c ≤ maxLen) (hI : RAt w a 5 Bd.cells l) (hok : ∀ x ∈ l, x.ok) (hE : budE l = 0) :
    Calls Tryd.prog 56 #[.slice a n c] w fun e w' => ∃ g, e = .returned (.tuple #[.pointer (some ⟨g, 0, none⟩), .int .i64 0]) ∧ PuNew w 166 l g w' ∧ Below w.heap.size w w' := by
  have C := Lib.hid (CheckBudgets_any a l n c w hn hn1 hc hc' hI hok)
  rw [hE] at C
  have CC := Lib.hid (fun w' (b : Below w.heap.size w w') => cloneBud_any a l n c w' hn (by omega) (hI.below b))
  have HN := Lib.hid hn
  clear hn hI hok hE
  go_enter Tryd.func56, Tryd.ntmps56
  go_wp2_with fail
  with_reducible refine C.out.mono ?_
  rintro e w1 ⟨rfl, b1⟩
  go_wp2_with fail
  with_reducible refine (CC.out _ b1).mono ?_
  rintro e w2 ⟨v, rfl, hown, b2⟩
  have HR := Lib.hid (PuNew.of_own (w := w1) (t := 166) (bl := l) (by rw [HN.out]; exact hown) b2)
  have HB := Lib.hid ((b1.trans (b2.mono b1.size)).alloc (by have := b1.size; have := b2.size; omega) (.cells #[v, .slice none 0 0, .int .i64 0] 166))
  have hb1 := b1.size
  obtain ⟨a2, c2, rfl, -⟩ := RAt.of_own (w := w2) (b0 := w1.heap.size) (t := 81) (v := v) (C := 5) (f := Bd.cells) (l := l) (by rw [HN.out]; exact hown) (fun x _ => x.len)
  clear hown b1 b2
  go_wp2_with fail
  go_ret2
  obtain ⟨ba, bc, h1, h2, h3, h4, h5, h6⟩ := HR.out
  exact ⟨_, rfl, ⟨ba, bc, h1, h2, h3, h4, fun p off e => ⟨Nat.le_trans hb1 (h5 p off e).1, (h5 p off e).2⟩, Nat.le_trans hb1 h6⟩, HB.out⟩

set_option maxRecDepth 100000 in
set_option maxHeartbeats 4000000 in
theorem budgetOfRef_any {b0 : Nat} {gs : List Nat} {g : Nat} {bl : List Bd} {hv : Value} {hl : List Hd} {now : Int} (key : ByteArray) (w : World) (hP : Pu b0 gs 168 g bl hv hl now w) (hn : bl.length ≤ 50) (hk : key.size ≤ 1000) :
    Calls Tryd.prog 133 #[.pointer (some ⟨g, 0, none⟩), .string key] w fun e w' => e = .returned (.tuple #[.agg #[.string (bdGet bl key).key, .int .i64 (bdGet bl key).cents, .int .i64 (bdGet bl key).first, .int .i64 (bdGet bl key).last, .bool (bdGet bl key).pace], .bool (decide (0 ≤ bdAt bl key))]) ∧ Below w.heap.size w w' := by
  obtain ⟨ba, bc, p0, p1, p2, hgl, hI, -, -⟩ := hP.cells
  have hbd := bdAt_bd bl key
  have HG := Lib.hid (show bdGet bl key = if bdAt bl key < 0 then zeroBd else bl.getD (bdAt bl key).toNat zeroBd from rfl)
  have HX0 := Lib.hid (XB.new w [.string key] 9)
  have HB0 := Lib.hid ((Below.refl w.heap.size w).alloc (Nat.le_refl _) (.cells #[.string key] 9))
  have HB1 := Lib.hid (HB0.out.alloc HB0.out.size (.cells #[.string ⟨#[]⟩, .int .i64 0, .int .i64 0, .int .i64 0, .bool false] 81))
  have HX1 := Lib.hid (HX0.out.alloc (.cells #[.string ⟨#[]⟩, .int .i64 0, .int .i64 0, .int .i64 0, .bool false] 81))
  have HI1 := Lib.hid (hI.below HB1.out)
  have HZ := Lib.hid (show ((w.alloc (.cells #[.string key] 9)).alloc (.cells #[.string ⟨#[]⟩, .int .i64 0, .int .i64 0, .int .i64 0, .bool false] 81)).heap[w.heap.size + 1]? = some (.cells #[.string ⟨#[]⟩, .int .i64 0, .int .i64 0, .int .i64 0, .bool false] 81 (0, 0)) by
    have h := heap_alloc_new (w.alloc (.cells #[.string key] 9)) (.cells #[.string ⟨#[]⟩, .int .i64 0, .int .i64 0, .int .i64 0, .bool false] 81)
    rw [World.size_alloc] at h
    exact h)
  have HSZ := Lib.hid (show ((w.alloc (.cells #[.string key] 9)).alloc (.cells #[.string ⟨#[]⟩, .int .i64 0, .int .i64 0, .int .i64 0, .bool false] 81)).heap.size = w.heap.size + 1 + 1 by simp)
  have HC0 := Lib.hid ((HB1.out.cell (p := ⟨g, 0, none⟩) hgl).trans p0)
  simp only [List.toArray] at HX0 HX1
  have HF := Lib.hid (show bdAt bl key = idxG (bl.map Bd.key) key from rfl)
  clear hP hI p1 p2
  generalize bdGet bl key = G at *
  obtain ⟨D, hD⟩ : ∃ D, bdAt bl key = D := ⟨_, rfl⟩
  rw [hD] at hbd HG HF ⊢
  clear hD
  go_enter Tryd.func133, Tryd.ntmps133
  go_wp2_with fail
  have hq : (((w.alloc (.cells #[.string key] 9)).alloc (.cells #[.string ⟨#[]⟩, .int .i64 0, .int .i64 0, .int .i64 0, .bool false] 81))).cell? ⟨w.heap.size, 0, none⟩ = some (.string key) := HX1.out.2 0 _ rfl
  have C := Lib.hid (budRefIdx_any ba bl bl.length bc w.heap.size key _ rfl (by omega) HI1.out hq)
  rw [← HF.out] at C
  clear hq
  generalize hw1 : (w.alloc (.cells #[.string key] 9)).alloc (.cells #[.string ⟨#[]⟩, .int .i64 0, .int .i64 0, .int .i64 0, .bool false] 81) = w1 at *
  clear hw1
  with_reducible refine C.out.mono ?_
  rintro e w2 ⟨rfl, b2⟩
  have HI2 := Lib.hid (HI1.out.below b2)
  have hz := HSZ.out
  have hz2 := (b2.block (w.heap.size + 1) (by omega)).trans HZ.out
  have e0 : w2.cell? ⟨w.heap.size + 1, 0, none⟩ = some (.string ⟨#[]⟩) := by simp [World.cell?, hz2]
  have e1 : w2.cell? ⟨w.heap.size + 1, 1, none⟩ = some (.int .i64 0) := by simp [World.cell?, hz2]
  have e2 : w2.cell? ⟨w.heap.size + 1, 2, none⟩ = some (.int .i64 0) := by simp [World.cell?, hz2]
  have e3 : w2.cell? ⟨w.heap.size + 1, 3, none⟩ = some (.int .i64 0) := by simp [World.cell?, hz2]
  have e4 : w2.cell? ⟨w.heap.size + 1, 4, none⟩ = some (.bool false) := by simp [World.cell?, hz2]
  have f0 : w2.frozen? ⟨w.heap.size + 1, 0, none⟩ = false := by simp [World.frozen?, hz2]
  have f1 : w2.frozen? ⟨w.heap.size + 1, 1, none⟩ = false := by simp [World.frozen?, hz2]
  have f2 : w2.frozen? ⟨w.heap.size + 1, 2, none⟩ = false := by simp [World.frozen?, hz2]
  have f3 : w2.frozen? ⟨w.heap.size + 1, 3, none⟩ = false := by simp [World.frozen?, hz2]
  have f4 : w2.frozen? ⟨w.heap.size + 1, 4, none⟩ = false := by simp [World.frozen?, hz2]
  have HB2 := Lib.hid (HB1.out.trans (b2.mono (by omega)))
  have hc0 : w2.cell? ⟨g, 0, none⟩ = some (.slice ba bl.length bc) := (b2.cell (p := ⟨g, 0, none⟩) (by show g < _; omega)).trans HC0.out
  clear hz hz2 b2 C HSZ HZ HI1 HX0 HX1 HB0 HB1 HC0
  by_cases hneg : D < 0
  · obtain rfl : G = zeroBd := HG.out.trans (if_pos hneg)
    have HDD := Lib.hid (show decide (0 ≤ D) = false from decide_eq_false (by omega))
    go_wp2_with fail
    refine bodyPost_ret (v := .tuple #[.agg #[.string ⟨#[]⟩, .int .i64 0, .int .i64 0, .int .i64 0, .bool false], .bool false]) (by simp [results, Tryd.results133, go_sem, e0, e1, e2, e3, e4]) rfl ⟨by rw [HDD.out]; rfl, ?_⟩
    exact ((((HB2.out.setCell (by show w.heap.size ≤ w.heap.size + 1; omega) _).setCell (by show w.heap.size ≤ w.heap.size + 1; omega) _).setCell (by show w.heap.size ≤ w.heap.size + 1; omega) _).setCell (by show w.heap.size ≤ w.heap.size + 1; omega) _).setCell (by show w.heap.size ≤ w.heap.size + 1; omega) _
  · obtain ⟨i, rfl⟩ := Int.eq_ofNat_of_zero_le (show 0 ≤ D by omega)
    have hil : i < bl.length := by omega
    have HG2 := Lib.hid (HG.out.trans (if_neg hneg))
    rw [Int.toNat_natCast, getD_at bl i hil] at HG2
    obtain ⟨p, off, rfl, hpl, c0, c1, c2, c3, c4⟩ := HI2.out.at5 hil (v0 := .string bl[i].key) (v1 := .int .i64 bl[i].cents) (v2 := .int .i64 bl[i].first) (v3 := .int .i64 bl[i].last) (v4 := .bool bl[i].pace) rfl
    rw [← HG2.out] at c0 c1 c2 c3 c4
    have HDD := Lib.hid (show decide ((0 : Int) ≤ (i : Int)) = true from decide_eq_true (by omega))
    clear HG HG2 HF hbd HI2
    have hil2 : i < bl.length := hil
    obtain ⟨key', cents, first, last, pace⟩ := G
    simp only at c0 c1 c2 c3 c4
    go_wp2_with fail
    refine bodyPost_ret (v := .tuple #[.agg #[.string key', .int .i64 cents, .int .i64 first, .int .i64 last, .bool pace], .bool true]) (by simp [results, Tryd.results133, go_sem, e0, e1, e2, e3, e4]) rfl ⟨rfl, ?_⟩
    exact ((((HB2.out.setCell (by show w.heap.size ≤ w.heap.size + 1; omega) _).setCell (by show w.heap.size ≤ w.heap.size + 1; omega) _).setCell (by show w.heap.size ≤ w.heap.size + 1; omega) _).setCell (by show w.heap.size ≤ w.heap.size + 1; omega) _).setCell (by show w.heap.size ≤ w.heap.size + 1; omega) _

set_option maxRecDepth 100000 in
set_option maxHeartbeats 4000000 in
theorem takenRef_any {b0 : Nat} {gs : List Nat} {g : Nat} {bl : List Bd} {hv : Value} {hl : List Hd} {now : Int} (key : ByteArray) (t : Int) (w : World) (hP : Pu b0 gs 168 g bl hv hl now w) (hn : hl.length ≤ 1000) (hok : ∀ x ∈ hl, x.ok) :
    Calls Tryd.prog 134 #[.pointer (some ⟨g, 0, none⟩), .string key, .int .i64 t] w fun e w' => e = .returned (.int .i64 (tkV hl key t)) ∧ Below w.heap.size w w' := by
  obtain ⟨ba, bc, p0, p1, p2, hgl, -, -, -⟩ := hP.cells
  obtain ⟨ha, hc, rfl, hI, -, -⟩ := hP.holds
  have HI := Lib.hid hI
  have HOK := Lib.hid hok
  have HT0 := Lib.hid (show tkV (hl.take 0) key t = 0 by rw [List.take_zero]; rfl)
  obtain ⟨n, hnn⟩ : ∃ n, hl.length = n := ⟨_, rfl⟩
  rw [hnn] at p1 hn
  have HN := Lib.hid hnn
  have HTL := Lib.hid (show tkV (hl.take n) key t = tkV hl key t by rw [← hnn, List.take_length])
  clear hP hI hok p0 p2 hnn
  go_enter Tryd.func134, Tryd.ntmps134
  go_wp2_with fail
  go_loopw [7, 9, 10, 16] (fun s _ _ i wr => ∃ (k : Nat) (z : Int), k ≤ n ∧ i = .int .i64 k ∧ s = .int .i64 z ∧ z = tkV (hl.take k) key t ∧ Below w.heap.size w wr) (fun _ _ _ i _ => n - (intOf i).toNat)
  case atStart => exact ⟨0, 0, Nat.zero_le _, rfl, rfl, HT0.out.symm, Below.refl _ _⟩
  case round =>
    obtain ⟨k, z, hk, rfl, rfl, hz, hB⟩ := hrel
    by_cases hlt : k < n
    · have hkl : k < hl.length := by have := HN.out; omega
      obtain ⟨p, off, rfl, hp, c0, c1, c2, c3, c4, c5⟩ := (HI.out.below hB).at6 hkl (v0 := .int .i64 hl[k].no) (v1 := .string hl[k].key) (v2 := .int .i64 hl[k].cents) (v3 := .int .i64 hl[k].at_) (v4 := .int .i64 hl[k].until_) (v5 := .int .i64 hl[k].state) rfl
      obtain ⟨o1, o2, o3, o4, o5, o6, o7⟩ := HOK.out hl[k] (List.getElem_mem hkl)
      have HS := Lib.hid (tkV_drop hl key t k hkl)
      have hzb := tkV_bd (hl.take k) key t (fun x hx => HOK.out x (List.mem_of_mem_take hx))
      have hlk : ((hl.take k).length : Int) ≤ 1000 := by rw [List.length_take]; omega
      rw [← hz] at HS hzb
      have hz0 : 0 ≤ z := hzb.1
      have hz1 : z ≤ 2000000000000000 := by have := hzb.2; omega
      have C := Lib.hid (fun w => stateAtRef_any hl[k] t w)
      have HTK := Lib.hid (show tkB hl[k] key t = (eqS hl[k].key key && (decide (stV hl[k] t = 1) || decide (stV hl[k] t = 2))) from rfl)
      have hsp := eqS_spell hl[k].key key
      generalize tkB hl[k] key t = tb at *
      generalize stV hl[k] t = st at *
      generalize eqS hl[k].key key = eb at *
      generalize hl[k] = x at *
      obtain ⟨no, hkey, cents, at_, until_, state⟩ := x
      simp only at c0 c1 c2 c3 c4 c5 o2 o3 hsp C HS
      have HX := Lib.hid (XB.new wr [.int .i64 no, .string hkey, .int .i64 cents, .int .i64 at_, .int .i64 until_, .int .i64 state] 94)
      have HB := Lib.hid (hB.alloc hB.size (.cells #[.int .i64 no, .string hkey, .int .i64 cents, .int .i64 at_, .int .i64 until_, .int .i64 state] 94))
      clear hz hzb hlk hB o1 o4 o5 o6 o7
      go_wp2_with fail
      with_reducible refine (C.out _).mono ?_
      rintro e w1 ⟨rfl, b1⟩
      have HB1 := Lib.hid (HB.out.trans (b1.mono HB.out.size))
      obtain ⟨x0, x1, x2, x3, x4, x5⟩ := (HX.out.below b1).at6
      clear b1 HB HX C
      cases eb with
      | false =>
        obtain rfl : tb = false := HTK.out.trans (by simp)
        have HR := Lib.hid (HS.out.trans (show _ = z by simp))
        go_wp2_with fail
        go_roundw
        case rel => exact ⟨k + 1, z, by omega, by go_num, rfl, HR.out.symm, HB1.out⟩
        case measure => simp [intOf]; omega
      | true =>
        by_cases h1 : st = 1
        · obtain rfl : tb = true := HTK.out.trans (by simp [h1])
          have HR := Lib.hid (HS.out.trans (show _ = z + cents by simp))
          subst h1
          go_wp2_with fail
          go_roundw
          case rel => exact ⟨k + 1, z + cents, by omega, by go_num, rfl, HR.out.symm, HB1.out⟩
          case measure => simp [intOf]; omega
        · have hd1 : (st == 1) = false := by simpa using h1
          by_cases h2 : st = 2
          · obtain rfl : tb = true := HTK.out.trans (by simp [h2])
            have HR := Lib.hid (HS.out.trans (show _ = z + cents by simp))
            subst h2
            go_wp2_with fail
            go_roundw
            case rel => exact ⟨k + 1, z + cents, by omega, by go_num, rfl, HR.out.symm, HB1.out⟩
            case measure => simp [intOf]; omega
          · have hd2 : (st == 2) = false := by simpa using h2
            obtain rfl : tb = false := HTK.out.trans (by simp [h1, h2])
            have HR := Lib.hid (HS.out.trans (show _ = z by simp))
            go_wp2_with fail
            go_roundw
            case rel => exact ⟨k + 1, z, by omega, by go_num, rfl, HR.out.symm, HB1.out⟩
            case measure => simp [intOf]; omega
    · obtain rfl : k = n := by omega
      have HZ := Lib.hid (hz.trans HTL.out)
      clear hz
      go_wp2_with fail
      go_ret
      exact ⟨ret_int HZ.out, hB⟩

set_option maxRecDepth 100000 in
set_option maxHeartbeats 4000000 in
theorem leftRef_any {b0 : Nat} {gs : List Nat} {g : Nat} {bl : List Bd} {hv : Value} {hl : List Hd} {now : Int} (key : ByteArray) (t : Int) (w : World) (hP : Pu b0 gs 168 g bl hv hl now w) (hb : bl.length ≤ 50) (hbl : ∀ x ∈ bl, bdB x = true) (hk : key.size ≤ 1000) (hn : hl.length ≤ 1000) (hok : ∀ x ∈ hl, x.ok) :
    Calls Tryd.prog 66 #[.pointer (some ⟨g, 0, none⟩), .string key, .int .i64 t] w fun e w' => e = .returned (.tuple #[.int .i64 (leftV bl hl now key t).1, .int .i64 (leftV bl hl now key t).2]) ∧ Below w.heap.size w w' := by
  obtain ⟨O, hO⟩ : ∃ O, leftV bl hl now key t = O := ⟨_, rfl⟩
  rw [hO]
  have HO := Lib.hid hO.symm
  unfold leftV at HO
  clear hO
  have HP := Lib.hid hP
  have HBL := Lib.hid (fun h => hbl _ (bdGet_mem (l := bl) (key := key) h))
  have HOK := Lib.hid hok
  have CB := Lib.hid (fun w (h : Pu b0 gs 168 g bl hv hl now w) => budgetOfRef_any key w h hb hk)
  have CT := Lib.hid (fun w (h : Pu b0 gs 168 g bl hv hl now w) => takenRef_any key t w h hn hok)
  have htb := tkV_bd hl key t hok
  clear hP hbl hok
  generalize bdAt bl key = D at *
  generalize tkV hl key t = T at *
  generalize bdGet bl key = G at *
  obtain ⟨htb0, htb1⟩ := htb
  have htb2 : T ≤ 2000000000000000 := by omega
  clear htb1
  go_enter Tryd.func66, Tryd.ntmps66
  go_wp2_with fail
  with_reducible refine (CB.out _ HP.out).mono ?_
  rintro e w1 ⟨rfl, b1⟩
  have HP1 := Lib.hid (HP.out.below b1)
  have HX := Lib.hid (XB.new w1 [.string G.key, .int .i64 G.cents, .int .i64 G.first, .int .i64 G.last, .bool G.pace] 81)
  have HB := Lib.hid ((b1.alloc b1.size (.cells #[.string G.key, .int .i64 G.cents, .int .i64 G.first, .int .i64 G.last, .bool G.pace] 81)))
  have HP2 := Lib.hid (HP1.out.below ((Below.refl _ _).alloc (Nat.le_refl _) (.cells #[.string G.key, .int .i64 G.cents, .int .i64 G.first, .int .i64 G.last, .bool G.pace] 81)))
  simp only [List.toArray] at HX
  clear b1 CB HP HP1
  by_cases hD : D < 0
  · obtain rfl : O = (0, 8) := HO.out.trans (if_pos hD)
    have hd : decide (0 ≤ D) = false := decide_eq_false (by omega)
    rw [hd]
    go_wp2_with fail
    go_ret2
    exact ⟨rfl, HB.out⟩
  · have hd : decide (0 ≤ D) = true := decide_eq_true (by omega)
    rw [hd]
    have HO1 := Lib.hid (HO.out.trans (if_neg hD))
    have hbb := HBL.out (by omega)
    have HBB := Lib.hid hbb
    clear HO hbb HBL hd
    go_wp2_with fail
    with_reducible refine (moment_any _ _).mono ?_
    rintro e w2 ⟨rfl, rfl⟩
    by_cases hm : 0 ≤ t ∧ t ≤ 4321439
    · have hmb : momB t = true := decide_eq_true hm
      have HO2 := Lib.hid (HO1.out.trans (if_neg (by rw [hmb]; decide)))
      rw [hmb]
      obtain ⟨m0, m1⟩ := hm
      clear hmb HO1
      obtain ⟨ba, bc, -, p1, p2, hgl, -, -, -⟩ := HP2.out.cells
      by_cases hnow : t < now
      · obtain rfl : O = (0, 7) := HO2.out.trans (if_pos hnow)
        go_wp2_with fail
        go_ret2
        exact ⟨rfl, HB.out⟩
      · have HO3 := Lib.hid (HO2.out.trans (if_neg hnow))
        have hpv := pacV_bd G t HBB.out m0 m1
        have CP := Lib.hid (fun w => PacedOf_any G t w HBB.out m0 m1)
        generalize pacV G t = V at *
        obtain ⟨hp0, hp1⟩ := hpv
        generalize hw1 : w1.alloc (.cells #[.string G.key, .int .i64 G.cents, .int .i64 G.first, .int .i64 G.last, .bool G.pace] 81) = w3 at *
        obtain ⟨x0, x1, x2, x3, x4⟩ := HX.out.at5
        have HW := Lib.hid hw1
        clear hw1 HO2
        generalize hq : w1.heap.size = q at *
        have HQ := Lib.hid hq
        clear hq
        go_wp2_with fail
        with_reducible refine (CP.out _).mono ?_
        rintro e w4 ⟨rfl, b4⟩
        have HP4 := Lib.hid (HP2.out.below b4)
        have HB4 := Lib.hid (HB.out.trans (b4.mono HB.out.size))
        clear b4 HP2 HB p1 p2 x0 x1 x2 x3 x4
        go_wp2_with fail
        with_reducible refine (CT.out _ HP4.out).mono ?_
        rintro e w5 ⟨rfl, b5⟩
        have HB5 := Lib.hid (HB4.out.trans (b5.mono HB4.out.size))
        go_wp2_with fail
        go_ret2
        exact ⟨by rw [HO3.out]; rfl, HB5.out⟩
    · have hmb : momB t = false := decide_eq_false hm
      obtain rfl : O = (0, 1) := HO1.out.trans (if_pos hmb)
      rw [hmb]
      go_wp2_with fail
      go_ret2
      exact ⟨rfl, HB.out⟩

set_option maxHeartbeats 2000000 in
theorem newRef_any (a : Option Addr) (l : List Bd) (n c : Nat) (w : World) (hn : l.length = n) (hn1 : n ≤ 50) (hI : RAt w a 5 Bd.cells l) :
    Calls Tryd.prog 57 #[.slice a n c] w fun e w' => ∃ g, e = .returned (.pointer (some ⟨g, 0, none⟩)) ∧ PuNew w 168 l g w' ∧ Below w.heap.size w w' := by
  have CC := Lib.hid (cloneBud_any a l n c w hn (by omega) hI)
  have HN := Lib.hid hn
  clear hn hI
  go_enter Tryd.func57, Tryd.ntmps57
  go_wp2_with fail
  with_reducible refine CC.out.mono ?_
  rintro e w1 ⟨v, rfl, hown, b1⟩
  have HR := Lib.hid (PuNew.of_own (w := w) (t := 168) (bl := l) (by rw [HN.out]; exact hown) b1)
  have HB := Lib.hid (b1.alloc b1.size (.cells #[v, .slice none 0 0, .int .i64 0] 168))
  obtain ⟨a2, c2, rfl, -⟩ := RAt.of_own (w := w1) (b0 := w.heap.size) (t := 81) (v := v) (C := 5) (f := Bd.cells) (l := l) (by rw [HN.out]; exact hown) (fun x _ => x.len)
  clear hown b1
  go_wp2_with fail
  go_ret
  exact ⟨_, rfl, HR.out, HB.out⟩
end Go.Proofs.YtdnikegakcdcnaaDoor
