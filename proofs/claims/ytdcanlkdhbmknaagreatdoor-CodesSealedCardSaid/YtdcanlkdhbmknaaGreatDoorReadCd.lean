/- offer.ReadCode and handref1.ReadCodeOf. -/
import Derived.Test.YtdcanlkdhbmknaaGreatDoorByteRow
import Derived.Test.YtdcanlkdhbmknaaGreatDoorWriteCd
set_option linter.unusedVariables false
namespace Go.Proofs.YtdcanlkdhbmknaaGreatDoor
open Go.RowKit

theorem infoByt : (Tryz.prog.info? 5).map (fun i => (i.zero, i.size, i.bytes)) = some (some (.int .u8 0), 1, 1) := by kernel_rfl
/-- a byte as a value -/
def byV (b : UInt8) : Value := .int .u8 (b.toNat : Int)
/-- a row of bytes of one's own read as a string -/
theorem own_string {w : World} {b0 : Nat} {v : Value} {k : Nat} {l : List UInt8} (h : w.ownsRow b0 5 1 v k (l.map byV)) (hk : k = l.length) :
    (convert 48 9 v).run Tryz.prog w = .ok (.string ⟨l.toArray⟩) w := by
  have h' := h
  obtain ⟨hl, ⟨rfl, h0⟩ | ⟨g, cap, cur, rfl, -, -, hcap, -⟩⟩ := h'
  · have hl0 : l = [] := List.eq_nil_of_length_eq_zero (by omega)
    subst hl0
    rw [run_convert_bytes_string (P := Tryz.prog) w 48 9 5 none 0 0 Tryz.underlying48 Tryz.underlying5 Tryz.underlying9]
    rfl
  · subst hk
    refine run_convert_bytes_back (P := Tryz.prog) w 48 9 5 ⟨g, 0, none⟩ cap l Tryz.underlying48 Tryz.underlying5 Tryz.underlying9 (fun j hj => ?_)
    have e : (Addr.add ⟨g, 0, none⟩ j) = ⟨g, j, none⟩ := by
      unfold Addr.add
      split
      · rename_i h0; subst h0; rfl
      · simp
    rw [e, h.cellAt j (by simpa using hj)]
    simp [byV, hj]

/-- the bytes that ReadCode leaves out -/
def gapB (c : UInt8) : Bool := c == 32 || c == 45 || c == 46
def tyB (c : UInt8) : UInt8 := UInt8.ofNat (tyN c.toNat)
/-- what ReadCode makes of the first k bytes -/
def rcL (l : List UInt8) (k : Nat) : List UInt8 := ((l.take k).filter (fun c => !gapB c)).map tyB
theorem rcL_len (l : List UInt8) (k : Nat) : (rcL l k).length ≤ k := by
  unfold rcL
  rw [List.length_map]
  exact Nat.le_trans (List.length_filter_le _ _) (List.length_take_le _ _)
theorem rcL_yes (l : List UInt8) (k : Nat) (h : k < l.length) (hg : gapB l[k] = false) : rcL l (k + 1) = rcL l k ++ [tyB l[k]] := by
  unfold rcL
  rw [List.take_succ_eq_append_getElem h, List.filter_append, List.map_append]
  simp [hg]
theorem rcL_no (l : List UInt8) (k : Nat) (h : k < l.length) (hg : gapB l[k] = true) : rcL l (k + 1) = rcL l k := by
  unfold rcL
  rw [List.take_succ_eq_append_getElem h, List.filter_append, List.map_append]
  simp [hg]
theorem rcS_yes (s : ByteArray) (k : Nat) (h : k < s.size) (hg : gapB s[k] = false) : rcL s.data.toList (k + 1) = rcL s.data.toList k ++ [tyB s[k]] := by
  have e := rcL_yes s.data.toList k (by rw [byte_len]; exact h)
  simp only [Array.getElem_toList] at e
  exact e hg
theorem rcS_no (s : ByteArray) (k : Nat) (h : k < s.size) (hg : gapB s[k] = true) : rcL s.data.toList (k + 1) = rcL s.data.toList k := by
  have e := rcL_no s.data.toList k (by rw [byte_len]; exact h)
  simp only [Array.getElem_toList] at e
  exact e hg
def rcS (s : ByteArray) : ByteArray := ⟨(rcL s.data.toList s.size).toArray⟩
theorem rcS_size (s : ByteArray) : (rcS s).size ≤ s.size := by
  show (rcL s.data.toList s.size).toArray.size ≤ _
  simpa using rcL_len s.data.toList s.size
/-- what ReadCode answers -/
def rdO (s : ByteArray) : ByteArray × Int := if 100 < s.size then (⟨#[]⟩, 2) else if codeE (rcS s) = 0 then (rcS s, 0) else (⟨#[]⟩, codeE (rcS s))

theorem tyN_lt (n : Nat) (h : n < 256) : tyN n < 256 := by
  have h' : ∀ n, n < 256 → tyN n < 256 := by decide +kernel
  exact h' n h
theorem gapB_eq (c : UInt8) : gapB c = ((c.toNat : Int) == 32 || (c.toNat : Int) == 45 || (c.toNat : Int) == 46) := by
  have h : ∀ n, n < 256 → gapB (UInt8.ofNat n) = (((UInt8.ofNat n).toNat : Int) == 32 || ((UInt8.ofNat n).toNat : Int) == 45 || ((UInt8.ofNat n).toNat : Int) == 46) := by decide +kernel
  have := h c.toNat (UInt8.toNat_lt c)
  simpa using this

set_option maxRecDepth 100000 in
set_option maxHeartbeats 4000000 in
theorem ReadCode_any (s : ByteArray) (w : World) (hs : s.size ≤ 1000) :
    Calls Tryz.prog 13 #[.string s] w fun e w' => e = .returned (.tuple #[.string (rdO s).1, .int .i64 (rdO s).2]) ∧ Below w.heap.size w w' := by
  obtain ⟨i0, hi, hz0, hz1, hz2'⟩ := info_parts infoByt
  obtain ⟨O, hO⟩ : ∃ O, rdO s = O := ⟨_, rfl⟩
  have HO := Lib.hid hO.symm
  rw [hO]
  unfold rdO at HO
  clear hO
  by_cases hbig : 100 < s.size
  · obtain rfl := HO.out.trans (if_pos hbig)
    go_enter Tryz.func13, Tryz.ntmps13
    go_wp2_with fail
    go_ret2
    exact ⟨rfl, Below.refl _ _⟩
  · have HO1 := Lib.hid (HO.out.trans (if_neg hbig))
    clear HO
    have hrs := rcS_size s
    have HRS := Lib.hid (show rcS s = ⟨(rcL s.data.toList s.size).toArray⟩ from rfl)
    have C1 := Lib.hid (fun w => CheckCode_any (rcS s) w (by omega))
    generalize codeE (rcS s) = E at *
    generalize rcS s = R at *
    have HLL := Lib.hid (byte_len s)
    go_enter Tryz.func13, Tryz.ntmps13
    go_wp2_with fail
    go_loopw [4, 5, 6, 13] (fun v _ _ i wr => ∃ k : Nat, k ≤ s.size ∧ i = .int .i64 k ∧ wr.ownsRow w.heap.size 5 1 v (rcL s.data.toList k).length ((rcL s.data.toList k).map byV) ∧ Below w.heap.size w wr) (fun _ _ _ i _ => s.size - (intOf i).toNat)
    case atStart => exact ⟨0, Nat.zero_le _, rfl, World.ownsRow_nil _ _ _ _, Below.refl _ _⟩
    case round =>
      obtain ⟨k, hk, rfl, hown, hB⟩ := hrel
      have hB1 := hB.size
      by_cases hlt : k < s.size
      · have hll : k < s.data.toList.length := by rw [byte_len]; exact hlt
        have HY := Lib.hid (rcS_yes s k hlt)
        have HN := Lib.hid (rcS_no s k hlt)
        have hrl := rcL_len s.data.toList k
        have HG := Lib.hid (gapB_eq (s[k]'hlt))
        generalize rcL s.data.toList k = l at *
        have HOW := Lib.hid hown
        have HBr := Lib.hid hB
        have HL := Lib.hid hrl
        clear hown hB hrl
        have hcl : s[k].toNat < 256 := UInt8.toNat_lt _
        have CT := Lib.hid (fun w => typed_any s[k].toNat w hcl)
        have HTB : Hid (Value.int .u8 ((tyN s[k].toNat : Nat) : Int) = byV (tyB s[k])) := Lib.hid (by
          unfold byV tyB
          have := tyN_lt _ hcl
          simp only [UInt8.toNat_ofNat']
          rw [Nat.mod_eq_of_lt (by omega)])
        clear hcl
        by_cases c1 : s[k].toNat = 32
        · have HG1 := Lib.hid (HN.out (by rw [HG.out, c1]; rfl))
          clear HY HN HG CT HTB
          go_wp2_with fail
          go_roundw
          case rel => exact ⟨k + 1, by omega, by go_num, by rw [HG1.out]; exact HOW.out, HBr.out⟩
          case measure => simp [intOf]; omega
        by_cases c2 : s[k].toNat = 45
        · have HG1 := Lib.hid (HN.out (by rw [HG.out, c2]; rfl))
          clear HY HN HG CT HTB c1
          go_wp2_with fail
          go_roundw
          case rel => exact ⟨k + 1, by omega, by go_num, by rw [HG1.out]; exact HOW.out, HBr.out⟩
          case measure => simp [intOf]; omega
        by_cases c3 : s[k].toNat = 46
        · have HG1 := Lib.hid (HN.out (by rw [HG.out, c3]; rfl))
          clear HY HN HG CT HTB c1 c2
          go_wp2_with fail
          go_roundw
          case rel => exact ⟨k + 1, by omega, by go_num, by rw [HG1.out]; exact HOW.out, HBr.out⟩
          case measure => simp [intOf]; omega
        have HG1 := Lib.hid (HY.out (by
          rw [HG.out]
          simp only [Bool.or_eq_false_iff, beq_eq_false_iff_ne, ne_eq]
          omega))
        have d1 : ((s[k].toNat : Int) != 32) = true := by simp only [bne_iff_ne, ne_eq]; omega
        have d2 : ((s[k].toNat : Int) != 45) = true := by simp only [bne_iff_ne, ne_eq]; omega
        have d3 : ((s[k].toNat : Int) != 46) = true := by simp only [bne_iff_ne, ne_eq]; omega
        clear HY HN HG c1 c2 c3
        generalize tyB s[k] = tb at *
        generalize tyN s[k].toNat = tn at *
        go_wp2_with fail
        with_reducible refine (CT.out _).mono ?_
        rintro e w2 ⟨rfl, rfl⟩
        go_wp2_with (at_builtin; refine wpList_append_own _ rfl _ _ 48 rfl w.heap.size 5 i0 _ 1 1 Tryz.underlying48 hi hz0 hz1 hz2' rfl (by decide) _ _ _ rfl (HOW.out.alloc _) ⟨wr.heap.size, 0, none⟩ 1 1 [.int .u8 (tn : Int)] rfl rfl ?c1 ?c2 ?c3 ?c4 ?c5 ?_)
        case c1 => exact cells_new wr #[.int .u8 (tn : Int)] 5
        case c2 => simp [Value.oneCell']
        case c3 => have := HL.out; unfold maxLen; omega
        case c4 => have := HL.out; omega
        case c5 => have := HL.out; simp; omega
        intro v2 w6 own6 hgrow6 hne6
        have HOW6 : Hid (w6.ownsRow w.heap.size 5 1 v2 (l.length + 1) ((l ++ [tb]).map byV)) := Lib.hid (by
          rw [List.map_append, List.map_singleton, ← HTB.out]
          exact own6)
        have HB6 := Lib.hid ((HBr.out.alloc hB1 (.cells #[.int .u8 (tn : Int)] 5)).grown hgrow6 (by simp; omega) (fun j hj => (HOW.out.lt j hj).1))
        clear own6 hgrow6 hne6 d1 d2 d3
        go_wp2_with fail
        go_roundw
        case rel => exact ⟨k + 1, by omega, by go_num, by rw [HG1.out, List.length_append]; exact HOW6.out, HB6.out⟩
        case measure => simp [intOf]; omega
      · obtain rfl : k = s.size := by omega
        have HCV := own_string hown rfl
        rw [← HRS.out] at HCV
        have HBr := Lib.hid hB
        clear hown hB
        by_cases hE : E = 0
        · obtain rfl := HO1.out.trans (if_pos hE)
          subst hE
          go_wp2_with fail
          with_reducible refine (C1.out _).mono ?_
          rintro e w2 ⟨rfl, rfl⟩
          go_wp2_with fail
          go_ret2
          exact ⟨rfl, HBr.out⟩
        · obtain rfl := HO1.out.trans (if_neg hE)
          have hE' : (E != 0) = true := by simp [hE]
          go_wp2_with fail
          with_reducible refine (C1.out _).mono ?_
          rintro e w2 ⟨rfl, rfl⟩
          go_wp2_with fail
          go_ret2
          exact ⟨rfl, HBr.out⟩

abbrev smS : ByteArray := ⟨#[97, 98, 99, 100, 101, 102, 103, 104, 105, 106, 107, 108, 109, 110, 111, 112, 113, 114, 115, 116, 117, 118, 119, 120, 121, 122]⟩
abbrev cpS : ByteArray := ⟨#[65, 66, 67, 68, 69, 70, 71, 72, 73, 74, 75, 76, 77, 78, 79, 80, 81, 82, 83, 84, 85, 86, 87, 88, 89, 90]⟩
abbrev lkS : ByteArray := ⟨#[79, 73, 76, 83, 90]⟩
abbrev lnS : ByteArray := ⟨#[48, 49, 49, 53, 50]⟩
theorem shB_ty (c : UInt8) : shB lkS.data.toList lnS.data.toList (shB smS.data.toList cpS.data.toList c) = tyB c := by
  have h : ∀ n, n < 256 → shB lkS.data.toList lnS.data.toList (shB smS.data.toList cpS.data.toList (UInt8.ofNat n)) = tyB (UInt8.ofNat n) := by decide +kernel
  have := h c.toNat (UInt8.toNat_lt c)
  simpa using this
theorem gap_ty (c : UInt8) : onlyB ⟨[tyB c].toArray⟩ [32, 45, 46] = gapB c := by
  have h : ∀ n, n < 256 → onlyB ⟨[tyB (UInt8.ofNat n)].toArray⟩ [32, 45, 46] = gapB (UInt8.ofNat n) := by decide +kernel
  have := h c.toNat (UInt8.toNat_lt c)
  simpa using this
theorem one_string (w : World) (c : UInt8) :
    (convert 48 9 (.slice (some ⟨w.heap.size, 0, none⟩) 1 1)).run Tryz.prog (w.alloc (.cells #[.int .u8 (c.toNat : Int)] 5)) = .ok (.string ⟨[c].toArray⟩) (w.alloc (.cells #[.int .u8 (c.toNat : Int)] 5)) := by
  refine run_convert_bytes_back (P := Tryz.prog) _ 48 9 5 ⟨w.heap.size, 0, none⟩ 1 [c] Tryz.underlying48 Tryz.underlying5 Tryz.underlying9 (fun j hj => ?_)
  have h0 : j = 0 := by simpa using hj
  subst h0
  have e : (Addr.add ⟨w.heap.size, 0, none⟩ 0) = ⟨w.heap.size, 0, none⟩ := rfl
  rw [e]
  simp
theorem sh_one (a b : List UInt8) (c : UInt8) : ([c].toArray.toList.map (shB a b)).toArray = [shB a b c].toArray := by simp
theorem ap_one {a b : ByteArray} {l : List UInt8} {c : UInt8} (ha : a.data.toList = l) (hb : b = ⟨[c].toArray⟩) : (a ++ b).data.toList = l ++ [c] := by
  subst hb
  rw [app_list, ha]

set_option maxRecDepth 100000 in
set_option maxHeartbeats 4000000 in
theorem ReadCodeOf_any (s : ByteArray) (w : World) (hs : s.size ≤ 1000) :
    Calls Tryz.prog 14 #[.string s] w fun e w' => e = .returned (.tuple #[.string (rdO s).1, .int .i64 (rdO s).2]) ∧ Below w.heap.size w w' := by
  obtain ⟨O, hO⟩ : ∃ O, rdO s = O := ⟨_, rfl⟩
  have HO := Lib.hid hO.symm
  rw [hO]
  unfold rdO at HO
  clear hO
  by_cases hbig : 100 < s.size
  · obtain rfl := HO.out.trans (if_pos hbig)
    go_enter Tryz.func14, Tryz.ntmps14
    go_wp2_with fail
    go_ret2
    exact ⟨rfl, Below.refl _ _⟩
  · have HO1 := Lib.hid (HO.out.trans (if_neg hbig))
    clear HO
    have hrs := rcS_size s
    have HRS := Lib.hid (show rcS s = ⟨(rcL s.data.toList s.size).toArray⟩ from rfl)
    have C1 := Lib.hid (fun w => CodeFault_any (rcS s) w (by omega))
    generalize codeE (rcS s) = E at *
    generalize rcS s = R at *
    have HLL := Lib.hid (byte_len s)
    have hcv := fun w s => run_bytes_of_string (P := Tryz.prog) w 9 48 5 s Tryz.underlying9 Tryz.underlying48 Tryz.underlying5
    go_enter Tryz.func14, Tryz.ntmps14
    go_wp2_with fail
    clear hcv
    go_loopw [4, 6, 7, 15] (fun o _ _ i wr => ∃ (k : Nat) (b : ByteArray), k ≤ s.size ∧ i = .int .i64 k ∧ o = .string b ∧ b.data.toList = rcL s.data.toList k ∧ RowG wr w.heap.size s.size (byF s.data.toList) ∧ Below w.heap.size w wr) (fun _ _ _ i _ => s.size - (intOf i).toNat)
    case atStart => exact ⟨0, _, Nat.zero_le _, rfl, rfl, rfl, bytes_row w.drew s _ _ _, (Below.refl _ _).drew.alloc (Nat.le_refl _) _⟩
    case round =>
      obtain ⟨k, b, hk, rfl, rfl, hbl, hrow, hB⟩ := hrel
      have hB1 := hB.size
      by_cases hlt : k < s.size
      · have hc := hrow.cell k hlt
        have HY := Lib.hid (rcS_yes s k hlt)
        have HN := Lib.hid (rcS_no s k hlt)
        have hbs : b.size ≤ k := by
          have := rcL_len s.data.toList k
          rw [← hbl, byte_len] at this
          exact this
        have HC : Hid (byF s.data.toList k = .int .u8 (s[k].toNat : Int)) := Lib.hid (by
          have hll : k < s.data.toList.length := by rw [byte_len]; exact hlt
          unfold byF
          rw [List.getD_eq_getElem?_getD, List.getElem?_eq_getElem hll]
          rfl)
        rw [HC.out] at hc
        have HBL := Lib.hid hbl
        have HRW := Lib.hid hrow
        have HB := Lib.hid hB
        generalize rcL s.data.toList k = l at *
        clear hrow hB hbl HC
        generalize s[k] = c at *
        have h1 := one_string wr c
        have HT := Lib.hid (shB_ty c)
        have HGP := Lib.hid (gap_ty c)
        have C2 := Lib.hid (fun w => shifted_any ⟨[c].toArray⟩ smS cpS w (by simp [ByteArray.size]) (by decide) (by decide))
        have C3 := Lib.hid (fun w => shifted_any ⟨[shB smS.data.toList cpS.data.toList c].toArray⟩ lkS lnS w (by simp [ByteArray.size]) (by decide) (by decide))
        have C4 := Lib.hid (fun w => made_any ⟨[tyB c].toArray⟩ [32, 45, 46] w (by simp [ByteArray.size, maxLen]) (by decide) (by decide))
        rw [sh_one] at C2 C3
        rw [HT.out] at C3
        rw [HGP.out] at C4
        clear HGP HT
        generalize shB smS.data.toList cpS.data.toList c = d at *
        generalize tyB c = f at *
        have hfs : (⟨[f].toArray⟩ : ByteArray).size ≤ 1 := Nat.le_refl 1
        have HAP := Lib.hid (fun x => ap_one (b := ⟨[f].toArray⟩) (c := f) HBL.out x)
        generalize hx : (⟨[f].toArray⟩ : ByteArray) = x at *
        have HX := Lib.hid hx
        clear hx
        go_wp2_with fail
        with_reducible refine (C2.out _).mono ?_
        rintro e w2 ⟨rfl, b2⟩
        have HB2 := Lib.hid ((HB.out.alloc hB1 (.cells #[.int .u8 (c.toNat : Int)] 5)).trans (b2.mono (by simp; omega)))
        have HR2 := Lib.hid ((HRW.out.alloc (.cells #[.int .u8 (c.toNat : Int)] 5)).below b2)
        have hB2 := HB2.out.size
        clear b2 hc h1
        go_wp2_with fail
        with_reducible refine (C3.out _).mono ?_
        rintro e w3 ⟨rfl, b3⟩
        have HB3 := Lib.hid (HB2.out.trans (b3.mono hB2))
        have HR3 := Lib.hid (HR2.out.below b3)
        have hB3 := HB3.out.size
        clear b3
        go_wp2_with fail
        with_reducible refine (C4.out _).mono ?_
        rintro e w4 ⟨rfl, b4⟩
        have HB4 := Lib.hid (HB3.out.trans (b4.mono hB3))
        have HR4 := Lib.hid (HR3.out.below b4)
        clear b4
        cases hg : gapB c with
        | true =>
          have HL := Lib.hid (HN.out hg)
          clear hg
          go_wp2_with fail
          go_roundw
          case rel => exact ⟨k + 1, b, by omega, by go_num, rfl, by rw [HL.out]; exact HBL.out, HR4.out, HB4.out⟩
          case measure => simp [intOf]; omega
        | false =>
          have HL := Lib.hid (HY.out hg)
          clear hg
          have z1 : ¬ (9223372036854775807 < b.size + x.size) := by omega
          go_wp2_with fail
          go_roundw
          case rel => exact ⟨k + 1, _, by omega, by go_num, rfl, by rw [HL.out]; exact HAP.out trivial, HR4.out, HB4.out⟩
          case measure => simp [intOf]; omega
      · obtain rfl : k = s.size := by omega
        obtain rfl : b = R := by
          rw [HRS.out]
          exact byte_ext (by rw [hbl])
        have HB := Lib.hid hB
        clear hrow hB hbl HRS
        go_wp2_with fail
        with_reducible refine (C1.out _).mono ?_
        rintro e w2 ⟨rfl, b2⟩
        have HB2 := Lib.hid (HB.out.trans (b2.mono hB1))
        clear b2
        by_cases hE : E = 0
        · obtain rfl := HO1.out.trans (if_pos hE)
          subst hE
          go_wp2_with fail
          go_ret2
          exact ⟨rfl, HB2.out⟩
        · obtain rfl := HO1.out.trans (if_neg hE)
          have hE' : (E != 0) = true := by simp [hE]
          go_wp2_with fail
          go_ret2
          exact ⟨rfl, HB2.out⟩
end Go.Proofs.YtdcanlkdhbmknaaGreatDoor
