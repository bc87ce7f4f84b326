/- Coupons and redemptions as records; what is done with them, in plain words. -/
import Derived.Test.YtdnikegakcdcnaaDoorBudSpec
import Derived.Test.YtdnikegakcdcnaaDoorCodeSum
import Derived.Test.YtdnikegakcdcnaaDoorMoment
import Derived.Test.YtdnikegakcdcnaaDoorIdx
import Derived.Test.YtdnikegakcdcnaaDoorOffers
import Derived.Test.YtdnikegakcdcnaaDoorKeyOf
import Derived.Test.YtdnikegakcdcnaaDoorPaced
set_option linter.unusedVariables false
namespace Go.Proofs.YtdnikegakcdcnaaDoor
open Go.RowKit

structure Cp where
  code : ByteArray
  offer : ByteArray
  most : Int
  each : Int
  from_ : Int
  to_ : Int
def Cp.cells (x : Cp) : List Value := [.string x.code, .string x.offer, .int .i64 x.most, .int .i64 x.each, .int .i64 x.from_, .int .i64 x.to_]
def Cp.agg (x : Cp) : Value := .agg #[.string x.code, .string x.offer, .int .i64 x.most, .int .i64 x.each, .int .i64 x.from_, .int .i64 x.to_]
def Cp.ok (x : Cp) : Prop := x.code.size ≤ 600 ∧ x.offer.size ≤ 100 ∧ -100000000 ≤ x.most ∧ x.most ≤ 100000000 ∧ -100000000 ≤ x.each ∧ x.each ≤ 100000000 ∧ -100000000 ≤ x.from_ ∧ x.from_ ≤ 100000000 ∧ -100000000 ≤ x.to_ ∧ x.to_ ≤ 100000000
theorem Cp.len (x : Cp) : x.cells.length = 6 := rfl
structure Rd where
  no : Int
  code : ByteArray
  person : ByteArray
  at_ : Int
  undone : Int
def Rd.cells (x : Rd) : List Value := [.int .i64 x.no, .string x.code, .string x.person, .int .i64 x.at_, .int .i64 x.undone]
def Rd.ok (x : Rd) : Prop := x.code.size ≤ 600 ∧ x.person.size ≤ 200
theorem Rd.len (x : Rd) : x.cells.length = 5 := rfl

/-- the numbers of a coupon are in their ranges -/
def cpB (x : Cp) : Bool := decide (1 ≤ x.most) && decide (x.most ≤ 1000000) && decide (1 ≤ x.each) && decide (x.each ≤ 1000000) && decide (0 ≤ x.from_) && decide (x.from_ ≤ 4321439) && decide (x.from_ < x.to_) && decide (x.to_ ≤ 4321440)
theorem cpB_no (x : Cp) (h : x.most < 1 ∨ 1000000 < x.most ∨ x.each < 1 ∨ 1000000 < x.each ∨ x.from_ < 0 ∨ 4321439 < x.from_ ∨ x.to_ ≤ x.from_ ∨ 4321440 < x.to_) : cpB x = false := by
  unfold cpB
  simp only [Bool.and_eq_false_iff, decide_eq_false_iff_not]
  omega
theorem cpB_yes (x : Cp) (h0 : 1 ≤ x.most) (h1 : x.most ≤ 1000000) (h2 : 1 ≤ x.each) (h3 : x.each ≤ 1000000) (h4 : 0 ≤ x.from_) (h5 : x.from_ ≤ 4321439) (h6 : x.from_ < x.to_) (h7 : x.to_ ≤ 4321440) : cpB x = true := by
  unfold cpB
  simp [h0, h1, h2, h3, h4, h5, h6, h7]
def cE (e : Int) (b2 b1 b3 : Bool) : Int := if e ≠ 0 then e else if b2 then 6 else if b1 = false then 5 else if b3 = false then 1 else 0
def cstepE (pre : List Cp) (x : Cp) : Int := cE (codeE x.code) (hasS (pre.map Cp.code) x.code) (keyB x.offer) (cpB x)
def cpGo : List Cp → List Cp → Int
  | _, [] => 0
  | pre, x :: r => if cstepE pre x = 0 then cpGo (pre ++ [x]) r else cstepE pre x
def cpE (l : List Cp) : Int := cpGo [] l
def CpInv (l : List Cp) (k : Nat) : Prop := cpE l = cpGo (l.take k) (l.drop k)
theorem CpInv.zero (l : List Cp) : CpInv l 0 := rfl
theorem CpInv.step {l : List Cp} {k : Nat} (h : CpInv l k) (hk : k < l.length) : (cstepE (l.take k) l[k] ≠ 0 → cpE l = cstepE (l.take k) l[k]) ∧ (cstepE (l.take k) l[k] = 0 → CpInv l (k + 1)) := by
  unfold CpInv at *
  rw [List.drop_eq_getElem_cons hk, cpGo] at h
  refine ⟨fun h0 => ?_, fun h0 => ?_⟩
  · rw [h, if_neg h0]
  · rw [h, if_pos h0, List.take_succ_eq_append_getElem hk]
theorem CpInv.done {l : List Cp} {k : Nat} (h : CpInv l k) (hk : l.length ≤ k) : cpE l = 0 := by
  unfold CpInv at h
  rw [h, List.drop_eq_nil_of_le hk]
  rfl
theorem cpGo_ok : ∀ (r pre : List Cp), cpGo pre r = 0 → ∀ x ∈ r, cpB x = true
  | [], _, _ => by simp
  | y :: r, pre, h => by
    unfold cpGo at h
    split at h
    · rename_i h0
      intro x hx
      rcases List.mem_cons.1 hx with rfl | hx
      · unfold cstepE cE at h0
        split at h0
        · omega
        · split at h0
          · omega
          · split at h0
            · omega
            · split at h0
              · omega
              · rename_i h3
                simpa using h3
      · exact cpGo_ok r (pre ++ [y]) h x hx
    · rename_i h0
      exact absurd h h0
theorem cpE_ok {l : List Cp} (h : cpE l = 0) : ∀ x ∈ l, cpB x = true := cpGo_ok l [] h

/-- where a coupon with a code stands -/
def cpAt (l : List Cp) (code : ByteArray) : Int := idxG (l.map Cp.code) code
theorem cpAt_bd (l : List Cp) (code : ByteArray) : cpAt l code = -1 ∨ (0 ≤ cpAt l code ∧ cpAt l code < l.length) := by
  have := idxG_bd (l.map Cp.code) code
  rw [List.length_map] at this
  exact this
def zeroCp : Cp := ⟨⟨#[]⟩, ⟨#[]⟩, 0, 0, 0, 0⟩
def cpGet (l : List Cp) (code : ByteArray) : Cp := if cpAt l code < 0 then zeroCp else l.getD (cpAt l code).toNat zeroCp
theorem cpGet_mem {l : List Cp} {code : ByteArray} (h : 0 ≤ cpAt l code) : cpGet l code ∈ l := by
  have hb := cpAt_bd l code
  unfold cpGet
  rw [if_neg (by omega), List.getD_eq_getElem?_getD, List.getElem?_eq_getElem (by omega)]
  exact List.getElem_mem _
/-- the error of Free, and the coupon that it asks for -/
def askE (l : List Cp) (code who : ByteArray) (t : Int) : Int := if codeE code ≠ 0 then codeE code else if cpAt l code < 0 then 8 else if keyB who = false then 5 else if momB t = false then 1 else 0
def askC (l : List Cp) (code who : ByteArray) (t : Int) : Cp := if askE l code who t = 0 then cpGet l code else zeroCp
/-- how often a code was redeemed -/
def uB (x : Rd) (code : ByteArray) : Bool := eqS x.code code && decide (x.undone < 0)
def usA (hl : List Rd) (code : ByteArray) : Int := ((hl.filter fun x => uB x code).length : Int)
def usO (hl : List Rd) (code who : ByteArray) : Int := ((hl.filter fun x => uB x code && eqS x.person who).length : Int)
theorem usA_bd (hl : List Rd) (code : ByteArray) : 0 ≤ usA hl code ∧ usA hl code ≤ hl.length := by
  unfold usA
  have := List.length_filter_le (fun x => uB x code) hl
  omega
theorem usO_bd (hl : List Rd) (code who : ByteArray) : 0 ≤ usO hl code who ∧ usO hl code who ≤ hl.length := by
  unfold usO
  have := List.length_filter_le (fun x => uB x code && eqS x.person who) hl
  omega
theorem usA_succ (hl : List Rd) (code : ByteArray) (k : Nat) (h : k < hl.length) : usA (hl.take (k + 1)) code = usA (hl.take k) code + (if uB hl[k] code = true then 1 else 0) := by
  unfold usA
  rw [List.take_succ_eq_append_getElem h, List.filter_append, List.length_append, List.filter_cons]
  split <;> simp
theorem usO_succ (hl : List Rd) (code who : ByteArray) (k : Nat) (h : k < hl.length) : usO (hl.take (k + 1)) code who = usO (hl.take k) code who + (if (uB hl[k] code && eqS hl[k].person who) = true then 1 else 0) := by
  unfold usO
  rw [List.take_succ_eq_append_getElem h, List.filter_append, List.length_append, List.filter_cons]
  split <;> simp
/-- what Redeem does -/
def rdE (l : List Cp) (hl : List Rd) (code who : ByteArray) (t : Int) : Int :=
  if askE l code who t ≠ 0 then askE l code who t else if t < (cpGet l code).from_ ∨ (cpGet l code).to_ ≤ t then 11 else if (cpGet l code).most ≤ usA hl code then 12 else if (cpGet l code).each ≤ usO hl code who then 6 else 0
def rdV (l : List Cp) (hl : List Rd) (code who : ByteArray) (t : Int) : Value :=
  if rdE l hl code who t = 0 then .tuple #[.int .i64 ((hl.length : Int) + 1), .int .i64 0] else .tuple #[.int .i64 0, .int .i64 (rdE l hl code who t)]
def rdL (l : List Cp) (hl : List Rd) (code who : ByteArray) (t : Int) : List Rd :=
  if rdE l hl code who t = 0 then hl ++ [⟨(hl.length : Int) + 1, code, who, t, -1⟩] else hl
/-- what Undo does -/
def zeroRd : Rd := ⟨0, ⟨#[]⟩, ⟨#[]⟩, 0, 0⟩
def unE (hl : List Rd) (no t : Int) : Int :=
  if no < 1 ∨ (hl.length : Int) < no then 8 else if momB t = false then 1 else if t < (hl.getD (no - 1).toNat zeroRd).at_ then 7 else if 0 ≤ (hl.getD (no - 1).toNat zeroRd).undone then 11 else 0
def unSet (x : Rd) (u : Int) : Rd := ⟨x.no, x.code, x.person, x.at_, u⟩
def unL (hl : List Rd) (no t : Int) : List Rd := if unE hl no t = 0 then hl.set (no - 1).toNat (unSet (hl.getD (no - 1).toNat zeroRd) t) else hl
/-- what Free answers -/
def frV (l : List Cp) (hl : List Rd) (code who : ByteArray) (t : Int) : Value :=
  if askE l code who t ≠ 0 then .tuple #[.int .i64 0, .int .i64 (askE l code who t)] else if t < (cpGet l code).from_ ∨ (cpGet l code).to_ ≤ t then .tuple #[.int .i64 0, .int .i64 0]
  else .tuple #[.int .i64 (max (min ((cpGet l code).most - usA hl code) ((cpGet l code).each - usO hl code who)) 0), .int .i64 0]
end Go.Proofs.YtdnikegakcdcnaaDoor
/- slices.IndexFunc and ContainsFunc over Coupon, by their field code (printed by gen_idx.py). -/
set_option linter.unusedVariables false
namespace Go.Proofs.YtdnikegakcdcnaaDoor
open Go.RowKit

theorem cpFault1_any (x : Cp) (q : Nat) (id : ByteArray) (w : World) (hq : w.cell? ⟨q, 0, none⟩ = some (.string id)) :
    Calls Tryd.prog 118 #[.agg #[.string x.code, .string x.offer, .int .i64 x.most, .int .i64 x.each, .int .i64 x.from_, .int .i64 x.to_], .pointer (some ⟨q, 0, none⟩)] w
      fun e w' => e = .returned (.bool (eqS x.code id)) ∧ Below w.heap.size w w' := by
  have hql := World.block_lt_of_cell? w _ hq
  go_enter Tryd.func118, Tryd.ntmps118
  go_wp2_with fail
  go_ret
  refine ⟨ret_bool ?_, (Below.refl _ _).alloc (Nat.le_refl _) _⟩
  rw [Bool.eq_iff_iff, eqS, decide_eq_true_eq]
  simp [Lib.toList_data]

set_option maxRecDepth 100000 in
set_option maxHeartbeats 4000000 in
theorem cpFaultIdx_any (a : Option Addr) (l : List Cp) (n c q : Nat) (id : ByteArray) (w : World) (hn : l.length = n) (hn1 : n ≤ 1000) (hI : RAt w a 6 Cp.cells l) (hq : w.cell? ⟨q, 0, none⟩ = some (.string id)) :
    Calls Tryd.prog 193 #[.slice a n c, .func (.func 118) #[] #[.pointer (some ⟨q, 0, none⟩)]] w fun e w' => e = .returned (.int .i64 (idxG (l.map Cp.code) id)) ∧ Below w.heap.size w w' := by
  have hql := World.block_lt_of_cell? w _ hq
  have HN := Lib.hid hn
  have HI := Lib.hid hI
  have HQ := Lib.hid hq
  obtain ⟨V, hV⟩ : ∃ V, idxG (l.map Cp.code) id = V := ⟨_, rfl⟩
  rw [hV]
  have HV := Lib.hid hV.symm
  clear hn hI hq hV
  go_enter Tryd.func193, Tryd.ntmps193
  go_wp2_with fail
  go_loopw [5, 8] (fun _ i wr => ∃ k : Nat, k ≤ n ∧ i = .int .i64 k ∧ Below w.heap.size w wr ∧ Hid (V = idxGo ((l.map Cp.code).drop k) id k)) (fun _ i _ => n - (intOf i).toNat)
  case atStart => exact ⟨0, Nat.zero_le _, rfl, Below.refl _ _, HV⟩
  case round =>
    obtain ⟨k, hk, rfl, hB, hH⟩ := hrel
    by_cases hlt : k < n
    · have hkl : k < l.length := by have := HN.out; omega
      obtain ⟨p, off, rfl, hp, c0, c1, c2, c3, c4, c5⟩ := (HI.out.below hB).at6 hkl (v0 := .string l[k].code) (v1 := .string l[k].offer) (v2 := .int .i64 l[k].most) (v3 := .int .i64 l[k].each) (v4 := .int .i64 l[k].from_) (v5 := .int .i64 l[k].to_) rfl
      have hq' := (hB.cell (p := ⟨q, 0, none⟩) hql).trans HQ.out
      have C := Lib.hid (cpFault1_any l[k] q id wr hq')
      have HS := Lib.hid (hH.out.trans (idxGo_drop (l.map Cp.code) id k (by rw [List.length_map]; exact hkl)))
      rw [List.getElem_map] at HS
      obtain ⟨b, hb⟩ : ∃ b, eqS l[k].code id = b := ⟨_, rfl⟩
      rw [hb] at C HS
      clear hb hq' hH
      generalize l[k] = x at *
      obtain ⟨xcode, xoffer, xmost, xeach, xfrom, xto⟩ := x
      simp only at c0 c1 c2 c3 c4 c5 C
      cases b with
      | true =>
        obtain rfl : V = (k : Int) := HS.out.trans (if_pos rfl)
        go_wp2_with fail
        with_reducible refine C.out.mono ?_
        rintro e w1 ⟨rfl, b1⟩
        have HB1 := Lib.hid (hB.trans (b1.mono hB.size))
        go_wp2_with fail
        go_ret
        exact ⟨rfl, HB1.out⟩
      | false =>
        have HR := Lib.hid (HS.out.trans (if_neg (by decide)))
        go_wp2_with fail
        with_reducible refine C.out.mono ?_
        rintro e w1 ⟨rfl, b1⟩
        have HB1 := Lib.hid (hB.trans (b1.mono hB.size))
        go_wp2_with fail
        go_roundw
        case rel => exact ⟨k + 1, by omega, by go_num, HB1.out, HR⟩
        case measure => simp [intOf]; omega
    · have HE := Lib.hid (show V = -1 by rw [hH.out, List.drop_eq_nil_of_le (by rw [List.length_map, HN.out]; omega)]; rfl)
      have HB := Lib.hid hB
      clear hH hB
      go_wp2_with fail
      go_ret
      exact ⟨ret_int HE.out.symm, HB.out⟩

theorem cpFaultHas_any (a : Option Addr) (l : List Cp) (n c q : Nat) (id : ByteArray) (w : World) (hn : l.length = n) (hn1 : n ≤ 1000) (hI : RAt w a 6 Cp.cells l) (hq : w.cell? ⟨q, 0, none⟩ = some (.string id)) :
    Calls Tryd.prog 117 #[.slice a n c, .func (.func 118) #[] #[.pointer (some ⟨q, 0, none⟩)]] w
      fun e w' => e = .returned (.bool (hasS (l.map Cp.code) id)) ∧ Below w.heap.size w w' := by
  have C := Lib.hid (cpFaultIdx_any a l n c q id w hn hn1 hI hq)
  have HE := Lib.hid (hasS_idx (l.map Cp.code) id)
  clear hn hI hq
  generalize hasS (l.map Cp.code) id = b at *
  generalize idxG (l.map Cp.code) id = r at *
  go_enter Tryd.func117, Tryd.ntmps117
  go_wp2_with fail
  with_reducible refine C.out.mono ?_
  rintro e w1 ⟨rfl, hb⟩
  go_wp2_with fail
  go_ret
  exact ⟨ret_bool HE.out.symm, hb⟩
theorem cpAsk1_any (x : Cp) (q : Nat) (id : ByteArray) (w : World) (hq : w.cell? ⟨q, 0, none⟩ = some (.string id)) :
    Calls Tryd.prog 194 #[.agg #[.string x.code, .string x.offer, .int .i64 x.most, .int .i64 x.each, .int .i64 x.from_, .int .i64 x.to_], .pointer (some ⟨q, 0, none⟩)] w
      fun e w' => e = .returned (.bool (eqS x.code id)) ∧ Below w.heap.size w w' := by
  have hql := World.block_lt_of_cell? w _ hq
  go_enter Tryd.func194, Tryd.ntmps194
  go_wp2_with fail
  go_ret
  refine ⟨ret_bool ?_, (Below.refl _ _).alloc (Nat.le_refl _) _⟩
  rw [Bool.eq_iff_iff, eqS, decide_eq_true_eq]
  simp [Lib.toList_data]

set_option maxRecDepth 100000 in
set_option maxHeartbeats 4000000 in
theorem cpAskIdx_any (a : Option Addr) (l : List Cp) (n c q : Nat) (id : ByteArray) (w : World) (hn : l.length = n) (hn1 : n ≤ 1000) (hI : RAt w a 6 Cp.cells l) (hq : w.cell? ⟨q, 0, none⟩ = some (.string id)) :
    Calls Tryd.prog 193 #[.slice a n c, .func (.func 194) #[] #[.pointer (some ⟨q, 0, none⟩)]] w fun e w' => e = .returned (.int .i64 (idxG (l.map Cp.code) id)) ∧ Below w.heap.size w w' := by
  have hql := World.block_lt_of_cell? w _ hq
  have HN := Lib.hid hn
  have HI := Lib.hid hI
  have HQ := Lib.hid hq
  obtain ⟨V, hV⟩ : ∃ V, idxG (l.map Cp.code) id = V := ⟨_, rfl⟩
  rw [hV]
  have HV := Lib.hid hV.symm
  clear hn hI hq hV
  go_enter Tryd.func193, Tryd.ntmps193
  go_wp2_with fail
  go_loopw [5, 8] (fun _ i wr => ∃ k : Nat, k ≤ n ∧ i = .int .i64 k ∧ Below w.heap.size w wr ∧ Hid (V = idxGo ((l.map Cp.code).drop k) id k)) (fun _ i _ => n - (intOf i).toNat)
  case atStart => exact ⟨0, Nat.zero_le _, rfl, Below.refl _ _, HV⟩
  case round =>
    obtain ⟨k, hk, rfl, hB, hH⟩ := hrel
    by_cases hlt : k < n
    · have hkl : k < l.length := by have := HN.out; omega
      obtain ⟨p, off, rfl, hp, c0, c1, c2, c3, c4, c5⟩ := (HI.out.below hB).at6 hkl (v0 := .string l[k].code) (v1 := .string l[k].offer) (v2 := .int .i64 l[k].most) (v3 := .int .i64 l[k].each) (v4 := .int .i64 l[k].from_) (v5 := .int .i64 l[k].to_) rfl
      have hq' := (hB.cell (p := ⟨q, 0, none⟩) hql).trans HQ.out
      have C := Lib.hid (cpAsk1_any l[k] q id wr hq')
      have HS := Lib.hid (hH.out.trans (idxGo_drop (l.map Cp.code) id k (by rw [List.length_map]; exact hkl)))
      rw [List.getElem_map] at HS
      obtain ⟨b, hb⟩ : ∃ b, eqS l[k].code id = b := ⟨_, rfl⟩
      rw [hb] at C HS
      clear hb hq' hH
      generalize l[k] = x at *
      obtain ⟨xcode, xoffer, xmost, xeach, xfrom, xto⟩ := x
      simp only at c0 c1 c2 c3 c4 c5 C
      cases b with
      | true =>
        obtain rfl : V = (k : Int) := HS.out.trans (if_pos rfl)
        go_wp2_with fail
        with_reducible refine C.out.mono ?_
        rintro e w1 ⟨rfl, b1⟩
        have HB1 := Lib.hid (hB.trans (b1.mono hB.size))
        go_wp2_with fail
        go_ret
        exact ⟨rfl, HB1.out⟩
      | false =>
        have HR := Lib.hid (HS.out.trans (if_neg (by decide)))
        go_wp2_with fail
        with_reducible refine C.out.mono ?_
        rintro e w1 ⟨rfl, b1⟩
        have HB1 := Lib.hid (hB.trans (b1.mono hB.size))
        go_wp2_with fail
        go_roundw
        case rel => exact ⟨k + 1, by omega, by go_num, HB1.out, HR⟩
        case measure => simp [intOf]; omega
    · have HE := Lib.hid (show V = -1 by rw [hH.out, List.drop_eq_nil_of_le (by rw [List.length_map, HN.out]; omega)]; rfl)
      have HB := Lib.hid hB
      clear hH hB
      go_wp2_with fail
      go_ret
      exact ⟨ret_int HE.out.symm, HB.out⟩
end Go.Proofs.YtdnikegakcdcnaaDoor
/- What is wrong with coupons: handref1.CouponsFault (printed by gen_checkcp.py). -/
set_option linter.unusedVariables false
namespace Go.Proofs.YtdnikegakcdcnaaDoor
open Go.RowKit

theorem momB_no {x : Int} (h : x < 0 ∨ 4321439 < x) : momB x = false := by
  unfold momB
  exact decide_eq_false (by omega)
theorem momB_yes {x : Int} (h0 : 0 ≤ x) (h1 : x ≤ 4321439) : momB x = true := by
  unfold momB
  exact decide_eq_true (by omega)

set_option maxRecDepth 100000 in
set_option maxHeartbeats 8000000 in
theorem CouponsFault_any (a : Option Addr) (l : List Cp) (n c : Nat) (w : World) (hn : l.length = n) (hn1 : n ≤ 50) (hc : n ≤ c) (hc' : c ≤ maxLen) (hI : RAt w a 6 Cp.cells l) (hok : ∀ x ∈ l, x.ok) :
    Calls Tryd.prog 36 #[.slice a n c] w fun e w' => e = .returned (.int .i64 (cpE l)) ∧ Below w.heap.size w w' := by
  unfold maxLen at hc'
  have HN := Lib.hid hn
  have HI := Lib.hid hI
  have HOK := Lib.hid hok
  clear hn hI hok
  go_enter Tryd.func36, Tryd.ntmps36
  go_wp2_with fail
  go_loopw [3, 4, 5, 11] (fun _ _ _ i wr => ∃ k : Nat, k ≤ n ∧ i = .int .i64 k ∧ Below w.heap.size w wr ∧ CpInv l k) (fun _ _ _ i _ => n - (intOf i).toNat)
  case atStart => exact ⟨0, Nat.zero_le _, rfl, Below.refl _ _, CpInv.zero l⟩
  case round =>
    obtain ⟨k, hk, rfl, hB, hV⟩ := hrel
    by_cases hlt : k < n
    · have hkl : k < l.length := by have := HN.out; omega
      obtain ⟨p, off, rfl, hp, c0, c1, c2, c3, c4, c5⟩ := (HI.out.below hB).at6 hkl (v0 := .string l[k].code) (v1 := .string l[k].offer) (v2 := .int .i64 l[k].most) (v3 := .int .i64 l[k].each) (v4 := .int .i64 l[k].from_) (v5 := .int .i64 l[k].to_) rfl
      obtain ⟨ok1, ok2, ok3, ok4, ok5, ok6, ok7, ok8, ok9, ok10⟩ := HOK.out l[k] (List.getElem_mem hkl)
      have HV := Lib.hid (hV.step hkl)
      have HE := Lib.hid (show cstepE (l.take k) l[k] = cE (codeE l[k].code) (hasS ((l.take k).map Cp.code) l[k].code) (keyB l[k].offer) (cpB l[k]) from rfl)
      have HNO := Lib.hid (cpB_no l[k])
      have HYES := Lib.hid (cpB_yes l[k])
      generalize l[k] = x at *
      obtain ⟨code, offer, most, each, from_, to_⟩ := x
      simp only at c0 c1 c2 c3 c4 c5 ok1 ok2 ok3 ok4 ok5 ok6 ok7 ok8 ok9 ok10 HNO HYES HE
      have C0 := Lib.hid (fun w => CodeFault_any code w (by omega))
      have C1 := Lib.hid (fun w => keyOf_any offer w (by unfold maxLen; omega))
      have C2 := Lib.hid (fun w' (hb : Below w.heap.size w w') q hq => cpFaultHas_any (some ⟨p, off, none⟩) (l.take k) k c q code w' (by simp; omega) (by omega) ((HI.out.below hb).take k) hq)
      generalize hasS ((l.take k).map Cp.code) code = b2 at *
      generalize cpB ⟨code, offer, most, each, from_, to_⟩ = b3 at *
      generalize keyB offer = b1 at *
      generalize codeE code = ce at *
      have X0 := Lib.hid (XB.new wr [.string code, .string offer, .int .i64 most, .int .i64 each, .int .i64 from_, .int .i64 to_] 144)
      have HB := Lib.hid (hB.alloc hB.size (.cells #[.string code, .string offer, .int .i64 most, .int .i64 each, .int .i64 from_, .int .i64 to_] 144))
      simp only [List.toArray] at X0
      clear hV
      go_wp2_with fail
      with_reducible refine (C0.out _).mono ?_
      rintro e w1 ⟨rfl, d1⟩
      have HB1 := Lib.hid (HB.out.trans (d1.mono HB.out.size))
      have X1 := X0.out.below d1
      obtain ⟨x0, x1, x2, x3, x4, x5⟩ := X1.at6
      have hq := X1.1
      have HX1 := Lib.hid X1
      clear X0 HB X1 d1 C0
      by_cases hce : ce = 0
      · subst hce
        go_wp2_with fail
        with_reducible refine (C2.out _ HB1.out _ x0).mono ?_
        rintro e w2 ⟨rfl, d2⟩
        have HB2 := Lib.hid (HB1.out.trans (d2.mono HB1.out.size))
        have X2 := HX1.out.below d2
        clear x0 x1 x2 x3 x4 x5 hq
        obtain ⟨x0, x1, x2, x3, x4, x5⟩ := X2.at6
        have hq := X2.1
        have HX2 := Lib.hid X2
        clear HX1 HB1 X2 d2 C2
        cases b2 with
        | true =>
          go_wp2_with fail
          go_ret
          exact ⟨ret_int ((HV.out.1 (by rw [HE.out]; simp [cE])).trans HE.out).symm, HB2.out⟩
        | false =>
          go_wp2_with fail
          with_reducible refine (C1.out _).mono ?_
          rintro e w3 ⟨rfl, d3⟩
          have HB3 := Lib.hid (HB2.out.trans (d3.mono HB2.out.size))
          have X3 := HX2.out.below d3
          clear x0 x1 x2 x3 x4 x5 hq
          obtain ⟨x0, x1, x2, x3, x4, x5⟩ := X3.at6
          have hq := X3.1
          clear HX2 HB2 X3 d3 C1
          cases b1 with
          | false =>
            go_wp2_with fail
            go_ret
            exact ⟨ret_int ((HV.out.1 (by rw [HE.out]; simp [cE])).trans HE.out).symm, HB3.out⟩
          | true =>
            by_cases h0 : most < 1
            · obtain rfl : b3 = false := HNO.out (by omega)
              clear HNO HYES
              go_wp2_with fail
              go_ret
              exact ⟨ret_int ((HV.out.1 (by rw [HE.out]; simp [cE])).trans HE.out).symm, HB3.out⟩
            · skip
              by_cases h1 : 1000000 < most
              · obtain rfl : b3 = false := HNO.out (by omega)
                clear HNO HYES
                go_wp2_with fail
                go_ret
                exact ⟨ret_int ((HV.out.1 (by rw [HE.out]; simp [cE])).trans HE.out).symm, HB3.out⟩
              · skip
                by_cases h2 : each < 1
                · obtain rfl : b3 = false := HNO.out (by omega)
                  clear HNO HYES
                  go_wp2_with fail
                  go_ret
                  exact ⟨ret_int ((HV.out.1 (by rw [HE.out]; simp [cE])).trans HE.out).symm, HB3.out⟩
                · skip
                  by_cases h3 : 1000000 < each
                  · obtain rfl : b3 = false := HNO.out (by omega)
                    clear HNO HYES
                    go_wp2_with fail
                    go_ret
                    exact ⟨ret_int ((HV.out.1 (by rw [HE.out]; simp [cE])).trans HE.out).symm, HB3.out⟩
                  · skip
                    by_cases h4 : from_ < 0 ∨ 4321439 < from_
                    · obtain rfl : b3 = false := HNO.out (by omega)
                      clear HNO HYES
                      go_wp2_with fail
                      with_reducible refine (moment_any _ _).mono ?_
                      rintro e w4 ⟨rfl, rfl⟩
                      rw [momB_no h4]
                      go_wp2_with fail
                      go_ret
                      exact ⟨ret_int ((HV.out.1 (by rw [HE.out]; simp [cE])).trans HE.out).symm, HB3.out⟩
                    · skip
                      have p4 : 0 ≤ from_ := by omega
                      have p5 : from_ ≤ 4321439 := by omega
                      clear h4
                      by_cases h6 : to_ ≤ from_
                      · obtain rfl : b3 = false := HNO.out (by omega)
                        clear HNO HYES
                        go_wp2_with fail
                        with_reducible refine (moment_any _ _).mono ?_
                        rintro e w4 ⟨rfl, rfl⟩
                        rw [momB_yes p4 p5]
                        go_wp2_with fail
                        go_ret
                        exact ⟨ret_int ((HV.out.1 (by rw [HE.out]; simp [cE])).trans HE.out).symm, HB3.out⟩
                      · skip
                        by_cases h7 : 4321440 < to_
                        · obtain rfl : b3 = false := HNO.out (by omega)
                          clear HNO HYES
                          go_wp2_with fail
                          with_reducible refine (moment_any _ _).mono ?_
                          rintro e w4 ⟨rfl, rfl⟩
                          rw [momB_yes p4 p5]
                          go_wp2_with fail
                          go_ret
                          exact ⟨ret_int ((HV.out.1 (by rw [HE.out]; simp [cE])).trans HE.out).symm, HB3.out⟩
                        · skip
                          have HY := Lib.hid (HYES.out (by omega) (by omega) (by omega) (by omega) (by omega) (by omega) (by omega) (by omega))
                          obtain rfl : b3 = true := HY.out
                          have HI1 := Lib.hid (HV.out.2 HE.out)
                          clear HNO HYES HY
                          go_wp2_with fail
                          with_reducible refine (moment_any _ _).mono ?_
                          rintro e w4 ⟨rfl, rfl⟩
                          rw [momB_yes p4 p5]
                          go_wp2_with fail
                          go_roundw
                          case rel => exact ⟨k + 1, by omega, by go_num, HB3.out, HI1.out⟩
                          case measure => simp [intOf]; omega
      · have HCE := Lib.hid hce
        have hce1 : (ce == 0) = false := by simpa using hce
        have hce2 : (ce != 0) = true := by simpa using hce
        go_wp2_with fail
        go_ret
        exact ⟨ret_int ((HV.out.1 (by rw [HE.out]; simp [cE, HCE.out])).trans (HE.out.trans (if_pos HCE.out))).symm, HB1.out⟩
    · have HD := Lib.hid (hV.done (by have := HN.out; omega))
      go_wp2_with fail
      go_ret
      exact ⟨ret_int HD.out.symm, hB⟩
end Go.Proofs.YtdnikegakcdcnaaDoor
