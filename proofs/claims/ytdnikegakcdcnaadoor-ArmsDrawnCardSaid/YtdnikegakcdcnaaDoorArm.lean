/- The arm of a key: measure.arm, handref1.ArmOf. -/
import Derived.Test.YtdnikegakcdcnaaDoorHash
import Derived.Test.YtdnikegakcdcnaaDoorSums
import Derived.Test.YtdnikegakcdcnaaDoorTotal
import Derived.Test.YtdnikegakcdcnaaDoorRecs
import Derived.StillTailTactics
import Derived.Laws.IdiomStrings
set_option linter.unusedVariables false
namespace Go.Proofs.YtdnikegakcdcnaaDoor
open Go.RowKit

/-- the arm that a rest falls in -/
def armGo : List Int → Int → Int → Int
  | [], _, _ => -1
  | z :: l, r, i => if r < z then i else armGo l (r - z) (i + 1)
def armV (name : ByteArray) (ws : List Int) (hold : Int) (key : ByteArray) : Int := armGo ws (hsh (name ++ ⟨#[47]⟩ ++ key).data.toList % (ws.sum + hold)) 0
theorem armGo_drop (ws : List Int) (k : Nat) (h : k < ws.length) (r : Int) : armGo (ws.drop k) r k = if r < ws[k] then (k : Int) else armGo (ws.drop (k + 1)) (r - ws[k]) ((k + 1 : Nat) : Int) := by
  rw [List.drop_eq_getElem_cons h]; rfl
theorem rem_bd (z s : Int) (h0 : 0 ≤ z) (h1 : 0 < s) (h2 : s ≤ 100000) : 0 ≤ z % s ∧ z % s < 100000 := by
  have := Int.emod_nonneg z (show s ≠ 0 by omega)
  have := Int.emod_lt_of_pos z h1
  omega
theorem sumw_bd (ws : List Int) (hw : ∀ z ∈ ws, 0 ≤ z ∧ z ≤ 1000) : 0 ≤ ws.sum ∧ ws.sum ≤ 1000 * ws.length := by
  induction ws with
  | nil => simp
  | cons z l ih =>
    have h1 := hw z (by simp)
    have h2 := ih fun y hy => hw y (by simp [hy])
    simp only [List.sum_cons, List.length_cons]
    omega

set_option maxRecDepth 100000 in
set_option maxHeartbeats 4000000 in
theorem ArmOf_any (name key : ByteArray) (a : Option Addr) (ws : List Int) (n c : Nat) (hold : Int) (w : World) (hn : ws.length = n) (hn1 : n ≤ 10) (hI : IntsAt w a ws) (hw : ∀ z ∈ ws, 0 ≤ z ∧ z ≤ 1000) (hh0 : 0 ≤ hold) (hh1 : hold ≤ 1000)
    (hs : 0 < ws.sum + hold) (hn2 : name.size ≤ 100) (hk : key.size ≤ 100) :
    Calls Tryd.prog 29 #[.agg #[.string name, .slice a n c, .int .i64 hold], .string key] w fun e w' => e = .returned (.int .i64 (armV name ws hold key)) ∧ Below w.heap.size w w' := by
  have hsb := sumw_bd ws hw
  have HN := Lib.hid hn
  have HW := Lib.hid hw
  have HI := Lib.hid hI
  have CH := Lib.hid (fun w' => hashOf_any (name ++ ⟨#[47]⟩ ++ key) w' (by simp only [ByteArray.size_append]; show name.size + 1 + key.size ≤ 1000; omega))
  have hhb := hsh_bd (name ++ ⟨#[47]⟩ ++ key).data.toList
  have HV := Lib.hid (show armV name ws hold key = armGo ws (hsh (name ++ ⟨#[47]⟩ ++ key).data.toList % (ws.sum + hold)) 0 from rfl)
  rw [hn] at hsb
  clear hn hw hI
  go_enter Tryd.func29, Tryd.ntmps29
  go_wp2_with fail
  obtain ⟨T, hT⟩ : ∃ T, name ++ ⟨#[47]⟩ ++ key = T := ⟨_, rfl⟩
  rw [hT] at CH hhb HV
  generalize hsh T.data.toList = Z at *
  have hI1 := Lib.hid (HI.out.alloc (.cells #[.string name, .slice a n c, .int .i64 hold] 45))
  have HB1 := Lib.hid ((Below.refl w.heap.size w).alloc (Nat.le_refl _) (.cells #[.string name, .slice a n c, .int .i64 hold] 45))
  have hx := XB.new w [.string name, .slice a n c, .int .i64 hold] 45
  have x0 := hx.2 0 _ rfl
  have x1 := hx.2 1 _ rfl
  have x2 := hx.2 2 _ rfl
  simp only [List.toArray] at x0 x1 x2
  generalize hq : w.heap.size = q at *
  have HQ := Lib.hid hq
  clear hq
  generalize w.alloc (.cells #[.string name, .slice a n c, .int .i64 hold] 45) = w1 at *
  have CT := Lib.hid (fun w' (h : IntsAt w' a ws) => total_any a ws n c w' HN.out (by omega) h (fun z hz => by have := HW.out z hz; omega))
  obtain ⟨U, hU⟩ : ∃ U, ws.sum = U := ⟨_, rfl⟩
  rw [hU] at CT hsb hs HV
  have hne : ¬ (U + hold = 0) := by omega
  have hU2 : U ≤ 10000 := by omega
  have e1 : IntKind.i64.wrap (U + hold) = U + hold := by rw [IntKind.wrap_i64]; omega
  have e2 : IntKind.u64.wrap (U + hold) = U + hold := by rw [IntKind.wrap_u64]; omega
  have e3 : Z.tmod (U + hold) = Z % (U + hold) := Int.tmod_eq_emod_of_nonneg hhb.1
  obtain ⟨r0, r1⟩ := rem_bd Z (U + hold) hhb.1 hs (by omega)
  generalize Z % (U + hold) = r at *
  have e4 : IntKind.i64.wrap r = r := by rw [IntKind.wrap_i64]; omega
  have z1 : ¬ (9223372036854775807 < name.size + 1) := by omega
  have z2 : ¬ (9223372036854775807 < name.size + 1 + key.size) := by omega
  refine wp_region_still_tail 15 (by kernel_rfl) (by kernel_rfl) ?_
  change wpStill _ _ w1.drew (fun a' => wpList _ _ _ _ a' w1.drew) _ _
  simp only [List.take_succ_cons, List.take_zero, List.drop_succ_cons, List.drop_zero]
  have y0 : w1.drew.cell? ⟨q, 0, none⟩ = some (.string name) := x0
  have y1 : w1.drew.cell? ⟨q, 1, none⟩ = some (.slice a n c) := x1
  have y2 : w1.drew.cell? ⟨q, 2, none⟩ = some (.int .i64 hold) := x2
  have hI2 := Lib.hid (show IntsAt w1.drew a ws from hI1.out)
  have HB2 := Lib.hid (HB1.out.drew)
  clear x0 x1 x2 hx hI1 HB1 HI
  generalize w1.drew = w2 at *
  repeat (first | still_step | still_call ((CH.out _).mono (fun _ _ h => ⟨h.1, h.2.symm⟩)) | still_call ((CT.out _ hI2.out).mono (fun _ _ h => ⟨h.1, h.2.symm⟩)))
  refine wpStill_nil ?_
  clear y0 CH CT e1 e2 e3 e4 z1 z2 hT hne
  go_wp2_with fail
  go_loopw [5, 6, 7, 26] (fun x _ _ i wr => ∃ (k : Nat) (r' : Int), k ≤ n ∧ i = .int .i64 k ∧ x = .int .i64 r' ∧ 0 ≤ r' ∧ r' < 100000 ∧ armGo ws r 0 = armGo (ws.drop k) r' k ∧ w2 = wr) (fun _ _ _ i _ => n - (intOf i).toNat)
  case atStart => exact ⟨0, r, Nat.zero_le _, rfl, rfl, r0, r1, rfl, rfl⟩
  case round =>
    obtain ⟨k, r', hk, rfl, rfl, hr0, hr1, hE, rfl⟩ := hrel
    have HE := Lib.hid hE
    clear hE
    by_cases hlt : k < n
    · have hkl : k < ws.length := by have := HN.out; omega
      obtain ⟨p, off, rfl, hp, hc⟩ := hI2.out k hkl
      have hz := HW.out ws[k] (List.getElem_mem hkl)
      have HD := Lib.hid (armGo_drop ws k hkl r')
      generalize ws[k] = z at *
      by_cases hrz : r' < z
      · go_wp2_with fail
        go_ret
        exact ⟨ret_int (by rw [HV.out, HE.out, HD.out, if_pos hrz]), by rw [HQ.out]; exact HB2.out⟩
      · go_wp2_with fail
        refine ⟨⟨k + 1, r' - z, by omega, by go_num, rfl, by omega, by omega, ?_, trivial⟩, by simp [intOf]; omega⟩
        rw [HE.out, HD.out, if_neg hrz]
    · obtain rfl : k = n := by omega
      have HD : ws.drop k = [] := List.drop_eq_nil_of_le (by have := HN.out; omega)
      go_wp2_with fail
      go_ret
      exact ⟨ret_int (by rw [HV.out, HE.out, HD]; rfl), by rw [HQ.out]; exact HB2.out⟩

theorem bytes_new (w : World) (s : ByteArray) (cap : Nat) (t : TypeId) (fz : Nat × Nat) (j : Nat) (hj : j < s.size) : (w.alloc (.cells (bytesRow s cap) t fz)).cell? ⟨w.heap.size, j, none⟩ = some (.int .u8 (s[j].toNat : Int)) := by
  have hb := heap_alloc_new w (.cells (bytesRow s cap) t fz)
  have hj' : j < s.data.size := hj
  simp only [World.cell?]
  rw [hb]
  simp only [bytesRow]
  rw [Array.getElem?_append_left (by simpa using hj')]
  simp
  exact ⟨_, Array.getElem?_eq_getElem hj', rfl⟩
/-- what the loop over the bytes keeps -/
structure ArmW (w wr : World) (T : ByteArray) (cs : List Value) (a : Option Addr) (ws : List Int) : Prop where
  below : Below w.heap.size w wr
  bytes : ∀ j (hj : j < T.size), wr.cell? ⟨w.heap.size + 1, j, none⟩ = some (.int .u8 (T[j].toNat : Int))
  split : XB wr w.heap.size cs
  ints : IntsAt wr a ws

set_option maxRecDepth 100000 in
set_option maxHeartbeats 4000000 in
theorem arm_any (name key : ByteArray) (a : Option Addr) (ws : List Int) (n c : Nat) (hold : Int) (w : World) (hn : ws.length = n) (hn1 : n ≤ 10) (hI : IntsAt w a ws) (hw : ∀ z ∈ ws, 0 ≤ z ∧ z ≤ 1000) (hh0 : 0 ≤ hold) (hh1 : hold ≤ 1000)
    (hs : 0 < ws.sum + hold) (hn2 : name.size ≤ 100) (hk : key.size ≤ 100) :
    Calls Tryd.prog 109 #[.agg #[.string name, .slice a n c, .int .i64 hold], .string key] w fun e w' => e = .returned (.int .i64 (armV name ws hold key)) ∧ Below w.heap.size w w' := by
  have hsb := sumw_bd ws hw
  have HN := Lib.hid hn
  have HW := Lib.hid hw
  have HI := Lib.hid hI
  have hhb := hsh_bd (name ++ ⟨#[47]⟩ ++ key).data.toList
  have HV := Lib.hid (show armV name ws hold key = armGo ws (hsh (name ++ ⟨#[47]⟩ ++ key).data.toList % (ws.sum + hold)) 0 from rfl)
  rw [hn] at hsb
  clear hn hw hI
  have z1 : ¬ (9223372036854775807 < name.size + 1) := by omega
  have z2 : ¬ (9223372036854775807 < name.size + 1 + key.size) := by omega
  have hcv := fun w s => run_bytes_of_string (P := Tryd.prog) w 9 190 5 s Tryd.underlying9 Tryd.underlying190 Tryd.underlying5
  go_enter Tryd.func109, Tryd.ntmps109
  go_wp2_with fail
  obtain ⟨T, hT⟩ : ∃ T, name ++ ⟨#[47]⟩ ++ key = T := ⟨_, rfl⟩
  rw [hT] at hhb HV ⊢
  have hTs : T.size ≤ 1000 := by rw [← hT]; simp only [ByteArray.size_append]; show name.size + 1 + key.size ≤ 1000; omega
  have hTe : T.size = name.size + 1 + key.size := by rw [← hT]; simp only [ByteArray.size_append]; rfl
  clear hT z1 z2 hcv
  have HT := Lib.hid (hsh_take T)
  have HA := Lib.hid (show T.data.toList.take T.size = T.data.toList from List.take_of_length_le (Nat.le_refl _))
  go_loopw [5, 7, 18] (fun h _ i wr => ∃ (k : Nat) (z : Int), k ≤ T.size ∧ i = .int .i64 k ∧ h = .int .u64 z ∧ z = hsh (T.data.toList.take k) ∧ ArmW w wr T [.string name, .slice a n c, .int .i64 hold] a ws) (fun _ _ i _ => T.size - (intOf i).toNat)
  case atStart =>
    refine ⟨0, _, Nat.zero_le _, rfl, rfl, rfl, ((Below.refl _ _).alloc (Nat.le_refl _) _).drew.alloc (by simp) _, fun j hj => ?_, ?_, ?_⟩
    · have h := fun fz => bytes_new (w.alloc (.cells #[.string name, .slice a n c, .int .i64 hold] 45)) T (grownCap (w.alloc (.cells #[.string name, .slice a n c, .int .i64 hold] 45)) (name.size + 1 + key.size) 0 5) 5 fz j hj
      simp only [World.size_alloc] at h
      exact h _
    · exact ((XB.new w [.string name, .slice a n c, .int .i64 hold] 45).drewN 1).alloc _
    · exact ((HI.out.alloc _).drewN 1).alloc _
  case round =>
    obtain ⟨k, z, hk', rfl, rfl, hz, hW⟩ := hrel
    have hb := hsh_bd (T.data.toList.take k)
    rw [← hz] at hb
    have HZ := Lib.hid hz
    have HWW := Lib.hid hW
    clear hz hW
    by_cases hlt : k < T.size
    · have hc := HWW.out.bytes k hlt
      go_wp2_with fail
      refine ⟨⟨k + 1, _, by omega, by go_num, rfl, ?_, HWW.out⟩, by simp [intOf]; omega⟩
      rw [HT.out k hlt, ← HZ.out]
      rfl
    · obtain rfl : k = T.size := by omega
      have hz2 := HZ.out
      rw [HA.out] at hz2
      rw [← hz2] at hhb HV
      clear hz2 HZ HT HA hb hlt hk'
      have hx := HWW.out.split
      have x0 := hx.2 0 _ rfl
      have x1 := hx.2 1 _ rfl
      have x2 := hx.2 2 _ rfl
      have hI1 := Lib.hid HWW.out.ints
      have HB1 := Lib.hid HWW.out.below
      clear hx HWW HI
      generalize hq : w.heap.size = q at *
      have HQ := Lib.hid hq
      clear hq
      have CT := Lib.hid (fun w' (h : IntsAt w' a ws) => sumOf_any a ws n c w' HN.out (by omega) h (fun z hz => by have := HW.out z hz; omega))
      obtain ⟨U, hU⟩ : ∃ U, ws.sum = U := ⟨_, rfl⟩
      rw [hU] at CT hsb hs HV
      have hne : ¬ (U + hold = 0) := by omega
      have hU2 : U ≤ 10000 := by omega
      have e1 : IntKind.i64.wrap (U + hold) = U + hold := by rw [IntKind.wrap_i64]; omega
      have e2 : IntKind.u64.wrap (U + hold) = U + hold := by rw [IntKind.wrap_u64]; omega
      have e3 : z.tmod (U + hold) = z % (U + hold) := Int.tmod_eq_emod_of_nonneg hhb.1
      obtain ⟨r0, r1⟩ := rem_bd z (U + hold) hhb.1 hs (by omega)
      generalize z % (U + hold) = r at *
      have e4 : IntKind.i64.wrap r = r := by rw [IntKind.wrap_i64]; omega
      go_wp2_with fail
      refine wp_region_still_tail 10 (by kernel_rfl) (by kernel_rfl) ?_
      change wpStill _ _ (World.drew _) (fun a' => wpList _ _ _ _ a' (World.drew _)) _ _
      simp only [List.take_succ_cons, List.take_zero, List.drop_succ_cons, List.drop_zero]
      have y0 : wr.drew.cell? ⟨q, 0, none⟩ = some (.string name) := x0
      have y1 : wr.drew.cell? ⟨q, 1, none⟩ = some (.slice a n c) := x1
      have y2 : wr.drew.cell? ⟨q, 2, none⟩ = some (.int .i64 hold) := x2
      have hI2 := Lib.hid (show IntsAt wr.drew a ws from hI1.out)
      have HB2 := Lib.hid (HB1.out.drew)
      clear x0 x1 x2 hI1 HB1
      generalize wr.drew = w2 at *
      repeat (first | still_step | still_call ((CT.out _ hI2.out).mono (fun _ _ h => ⟨h.1, h.2.symm⟩)))
      refine wpStill_nil ?_
      clear y0 CT e1 e2 e3 e4 hne
      go_wp2_with fail
      go_loopw [8, 9, 10, 41] (fun x _ _ i wr => ∃ (k : Nat) (r' : Int), k ≤ n ∧ i = .int .i64 k ∧ x = .int .i64 r' ∧ 0 ≤ r' ∧ r' < 100000 ∧ armGo ws r 0 = armGo (ws.drop k) r' k ∧ w2 = wr) (fun _ _ _ i _ => n - (intOf i).toNat)
      case atStart => exact ⟨0, r, Nat.zero_le _, rfl, rfl, r0, r1, rfl, rfl⟩
      case round =>
        obtain ⟨k, r', hk, rfl, rfl, hr0, hr1, hE, rfl⟩ := hrel
        have HE := Lib.hid hE
        clear hE
        by_cases hlt : k < n
        · have hkl : k < ws.length := by have := HN.out; omega
          obtain ⟨p, off, rfl, hp, hc⟩ := hI2.out k hkl
          have hz := HW.out ws[k] (List.getElem_mem hkl)
          have HD := Lib.hid (armGo_drop ws k hkl r')
          generalize ws[k] = z at *
          by_cases hrz : r' < z
          · go_wp2_with fail
            go_ret
            exact ⟨ret_int (by rw [HV.out, HE.out, HD.out, if_pos hrz]), by rw [HQ.out]; exact HB2.out⟩
          · go_wp2_with fail
            refine ⟨⟨k + 1, r' - z, by omega, by go_num, rfl, by omega, by omega, ?_, trivial⟩, by simp [intOf]; omega⟩
            rw [HE.out, HD.out, if_neg hrz]
        · obtain rfl : k = n := by omega
          have HD : ws.drop k = [] := List.drop_eq_nil_of_le (by have := HN.out; omega)
          go_wp2_with fail
          go_ret
          exact ⟨ret_int (by rw [HV.out, HE.out, HD]; rfl), by rw [HQ.out]; exact HB2.out⟩
end Go.Proofs.YtdnikegakcdcnaaDoor
