/- The makers of codes once more: what they give is ASCII. -/
import Derived.Test.YtdcanlkdhbmknaaGreatDoorCodeMake
import Derived.Test.YtdcanlkdhbmknaaGreatDoorWrPlain
set_option linter.unusedVariables false
namespace Go.Proofs.YtdcanlkdhbmknaaGreatDoor
open Go.RowKit

/-- all the bytes are ASCII -/
def ascB (s : ByteArray) : Prop := ∀ b ∈ s.data.toList, b.toNat < 128
theorem asc_nil : ascB ⟨#[]⟩ := fun b hb => by simp at hb
theorem asc_app {a b : ByteArray} (ha : ascB a) (hb : ascB b) : ascB (a ++ b) := by
  intro x hx
  rw [app_list, List.mem_append] at hx
  exact hx.elim (ha x) (hb x)
theorem asc_ext (s : ByteArray) (a b : Nat) (h : ascB s) : ascB (s.extract a b) := by
  intro x hx
  rw [ext_toList] at hx
  exact h x (List.mem_of_mem_drop (List.mem_of_mem_take hx))
theorem asc_lit {s : ByteArray} (h : s.data.toList.all (fun b => decide (b.toNat < 128)) = true) : ascB s := by
  intro x hx
  simpa using List.all_eq_true.1 h x hx
theorem enc_asc (c : UInt8) (h : c.toNat < 128) : ascB (Utf8.encode (c.toNat : Int)) := by
  have h' : ∀ n, n < 128 → (Utf8.encode (n : Nat)).data.toList.all (fun b => decide (b.toNat < 128)) = true := by decide +kernel
  exact asc_lit (h' c.toNat h)
theorem byte_mem (s : ByteArray) (j : Nat) (h : j < s.size) : s[j] ∈ s.data.toList := by
  show s.data[j] ∈ s.data.toList
  rw [← Array.getElem_toList]
  exact List.getElem_mem _
theorem sgn_asc (i : Nat) (h : i < 31) : ascB (sgn i) := by
  have h' : ∀ i, i < 31 → (sgn i).data.toList.all (fun b => decide (b.toNat < 128)) = true := by decide +kernel
  exact asc_lit (h' i h)
theorem sealF_asc (b : ByteArray) (hb : ascB b) : ∀ f i, i + f ≤ 31 → ascB (sealF b f i)
  | 0, i, h => hb
  | f + 1, i, h => by
    unfold sealF
    split
    · exact asc_app hb (sgn_asc i (by omega))
    · exact sealF_asc b hb f (i + 1) (by omega)
theorem sealO_asc (b : ByteArray) (hb : ascB b) : ascB (sealO b).1 := by
  unfold sealO
  split
  · exact asc_nil
  · split
    · exact asc_nil
    · exact sealF_asc b hb 31 0 (by omega)

set_option maxRecDepth 100000 in
set_option maxHeartbeats 4000000 in
theorem changed_asc (S : SC) (K : Nat) (t wth : ByteArray) (w : World) (s0 : Strm w S K) (hK : K ≤ 10000) (ht : t.size ≤ 300) (hw0 : 0 < wth.size) (hw1 : wth.size ≤ 20) (hta : ascB t) (hwa : ascB wth) :
    Calls Tryz.prog 19 #[S.p, .string t, .string wth] w (GenS S (K + 3) w fun r => r.size ≤ 2 * t.size + 24 ∧ ascB r) := by
  have HTA := Lib.hid hta
  have HWA := Lib.hid hwa
  clear hta hwa
  have he2 : wth.toList.isEmpty = false := by rw [isEmpty_size]; exact decide_eq_false (by omega)
  by_cases h0 : t.size = 0
  · have he1 : t.toList.isEmpty = true := by rw [isEmpty_size]; exact decide_eq_true h0
    have hws : wth.size ≤ 2 * t.size + 24 := by omega
    clear h0
    go_enter Tryz.func19, Tryz.ntmps19
    go_wp2_with fail
    go_ret
    exact ⟨wth, ⟨hws, HWA.out⟩, rfl, grown_same _ _, strm_mono s0 (by omega)⟩
  · have he1 : t.toList.isEmpty = false := by rw [isEmpty_size]; exact decide_eq_false h0
    go_enter Tryz.func19, Tryz.ntmps19
    go_wp2_with fail
    with_reducible refine (next_any S _ _ _ s0 (by omega) (by omega)).mono ?_
    rintro e w1 ⟨i, ⟨i0, i1, -⟩, rfl, k1, s1⟩
    have hi1 := i1 (by omega)
    obtain ⟨i, rfl⟩ := Int.eq_ofNat_of_zero_le i0
    clear i0 i1
    go_wp2_with fail
    with_reducible refine (next_any S _ _ _ s1 (by omega) (by omega)).mono ?_
    rintro e w2 ⟨j, ⟨j0, j1, -⟩, rfl, k2, s2⟩
    have hj1 := j1 (by omega)
    obtain ⟨j, rfl⟩ := Int.eq_ofNat_of_zero_le j0
    clear j0 j1
    have hjl : j < wth.size := by omega
    obtain ⟨ch, hch⟩ : ∃ ch, wth[j] = ch := ⟨_, rfl⟩
    obtain ⟨c, hc⟩ : ∃ c : Nat, ch.toNat = c := ⟨_, rfl⟩
    have hcb := UInt8.toNat_lt ch
    have hcR := enc_byte ch
    have HCA := Lib.hid (enc_asc ch (HWA.out ch (by rw [← hch]; exact byte_mem wth j hjl)))
    rw [hc] at hcR hcb HCA
    have hcb' : c < 256 := hcb
    obtain ⟨R, hR⟩ : ∃ R, Utf8.encode (c : Int) = R := ⟨_, rfl⟩
    rw [hR] at hcR HCA
    have HR := Lib.hid hR
    clear hcb hR
    go_wp2_with fail
    clear hc hch
    with_reducible refine (next_any S _ _ _ s2 (by omega) (by omega)).mono ?_
    rintro e w3 ⟨d, ⟨d0, d1, -⟩, rfl, k3, s3⟩
    have hd1 := d1 (by decide)
    have HG := Lib.hid (grown_trans k1 (grown_trans k2 k3))
    have HS := Lib.hid (strm_mono s3 (show K + 1 + 1 + 1 ≤ K + 3 from Nat.le_refl _))
    have hil : i < t.size := by omega
    have hA := ext_size t 0 i
    have hB1 := ext_size t (i + 1) t.size
    have hB2 := ext_size t i t.size
    have HAa := Lib.hid (asc_ext t 0 i HTA.out)
    have HBa := Lib.hid (asc_ext t (i + 1) t.size HTA.out)
    have HCa := Lib.hid (asc_ext t i t.size HTA.out)
    obtain ⟨A, eA⟩ : ∃ A, t.extract 0 i = A := ⟨_, rfl⟩
    obtain ⟨B1, eB1⟩ : ∃ B, t.extract (i + 1) t.size = B := ⟨_, rfl⟩
    obtain ⟨B2, eB2⟩ : ∃ B, t.extract i t.size = B := ⟨_, rfl⟩
    rw [eA] at hA HAa
    rw [eB1] at hB1 HBa
    rw [eB2] at hB2 HCa
    clear k1 k2 k3 s0 s1 s2 s3 d1 hjl hj1 h0
    have q1 : (i : Int) ≤ (t.size : Int) := by omega
    have q2 : (i : Int) + 1 ≤ (t.size : Int) := by omega
    have z1 : ¬ (9223372036854775807 < A.size + R.size) := by omega
    have z2 : ¬ (9223372036854775807 < A.size + R.size + B1.size) := by omega
    have z3 : ¬ (9223372036854775807 < A.size + R.size + B2.size) := by omega
    have z4 : ¬ (9223372036854775807 < A.size + B1.size) := by omega
    have o1 : (A ++ R ++ B1).size ≤ 2 * t.size + 24 := by rw [ByteArray.size_append, ByteArray.size_append]; omega
    have o2 : (A ++ R ++ B2).size ≤ 2 * t.size + 24 := by rw [ByteArray.size_append, ByteArray.size_append]; omega
    have o3 : (A ++ B1).size ≤ 2 * t.size + 24 := by rw [ByteArray.size_append]; omega
    have hR := HR.out
    clear HR
    rcases (show d = 0 ∨ d = 1 ∨ d = 2 by omega) with rfl | rfl | rfl
    · go_wp2_with fail
      go_quiet (fail)
      go_wp2_with fail
      go_ret
      exact ⟨_, ⟨o1, asc_app (asc_app HAa.out HCA.out) HBa.out⟩, rfl, grownBy_drewN HG.out _, HS.out⟩
    · go_wp2_with fail
      go_quiet (fail)
      go_wp2_with fail
      go_ret
      exact ⟨_, ⟨o2, asc_app (asc_app HAa.out HCA.out) HCa.out⟩, rfl, grownBy_drewN HG.out _, HS.out⟩
    · go_wp2_with fail
      go_quiet (fail)
      go_wp2_with fail
      go_ret
      exact ⟨_, ⟨o3, asc_app HAa.out HBa.out⟩, rfl, grownBy_drewN HG.out _, HS.out⟩

set_option maxRecDepth 100000 in
set_option maxHeartbeats 4000000 in
theorem codeBody_asc (S : SC) (K : Nat) (w : World) (s0 : Strm w S K) (hK : K ≤ 9000) :
    Calls Tryz.prog 4 #[S.p] w (GenS S (K + 40) w fun r => r.size ≤ 90 ∧ ascB r) := by
  go_enter Tryz.func4, Tryz.ntmps4
  go_wp2_with fail
  with_reducible refine (pick_at S _ [2, 3, 3, 5, 8, 22, 23, 24] 8 _ _ _ _ s0 (by omega) rfl (by omega) (by omega) (by simp) (by simp)).mono ?_
  rintro e w1 ⟨n, hn, rfl, k1, s1⟩
  have hn2 : 0 ≤ n ∧ n ≤ 24 := by
    simp only [List.mem_cons, List.mem_nil_iff, or_false] at hn
    omega
  clear hn
  obtain ⟨hn0, hn1⟩ := hn2
  obtain ⟨n, rfl⟩ := Int.eq_ofNat_of_zero_le hn0
  clear hn0
  go_wp2_with fail
  clear s0
  go_loopw [4, 5, 10] (fun o _ i wr => ∃ (k : Nat) (b : ByteArray), k ≤ n ∧ i = .int .i64 k ∧ o = .string b ∧ b.size = k ∧ ascB b ∧ w.grownBy wr (some S.g) ∧ Strm wr S (K + 1 + k)) (fun _ _ i _ => n - (intOf i).toNat)
  case atStart => exact ⟨0, ⟨#[]⟩, Nat.zero_le _, rfl, rfl, rfl, asc_nil, k1, s1⟩
  case round =>
    obtain ⟨k, b, hk, rfl, rfl, hb, hba, hg, hs⟩ := hrel
    have HBA := Lib.hid hba
    clear hba
    have HG := Lib.hid hg
    have HB := Lib.hid hb
    have hb24 : b.size ≤ 24 := by omega
    clear hg k1 s1 hb
    by_cases hlt : k < n
    · go_wp2_with fail
      with_reducible refine (next_any S _ _ _ hs (by omega) (by omega)).mono ?_
      rintro e w2 ⟨d, ⟨d0, d1, -⟩, rfl, k2, s2⟩
      have hd1 := d1 (by omega)
      obtain ⟨d, rfl⟩ := Int.eq_ofNat_of_zero_le d0
      have hd31 : d < 31 := by omega
      have hgs := sgn_size d hd31
      have HGA := Lib.hid (sgn_asc d hd31)
      obtain ⟨g, hg⟩ : ∃ g, sgn d = g := ⟨_, rfl⟩
      rw [hg] at hgs HGA
      have hsl : (⟨#[48, 49, 50, 51, 52, 53, 54, 55, 56, 57, 65, 66, 67, 68, 69, 70, 71, 72, 74, 75, 77, 78, 80, 81, 82, 84, 85, 86, 87, 88, 89]⟩ : ByteArray).extract d (d + 1) = g := hg
      have HGS := Lib.hid (show (b ++ g).size = k + 1 by rw [ByteArray.size_append, HB.out, hgs])
      have HG2 := Lib.hid (grown_trans HG.out k2)
      have HS2 := Lib.hid s2
      have z1 : ¬ (9223372036854775807 < b.size + g.size) := by omega
      have z2 : ¬ (9223372036854775807 < b.size + 1) := by omega
      clear hg d0 d1 k2 s2 hs
      go_wp2_with fail
      clear hsl
      go_roundw
      case rel => exact ⟨k + 1, b ++ g, by omega, by go_num, rfl, HGS.out, asc_app HBA.out HGA.out, HG2.out, strm_mono HS2.out (by omega)⟩
      case measure => simp [intOf]; omega
    · go_wp2_with fail
      with_reducible refine (flip_any S _ _ _ hs (by omega) (by omega)).mono ?_
      rintro e w2 ⟨f, rfl, k2, s2⟩
      have HG2 := Lib.hid (grown_trans HG.out k2)
      cases f with
      | false =>
        go_wp2_with fail
        go_ret
        exact ⟨b, ⟨by omega, HBA.out⟩, rfl, HG2.out, strm_mono s2 (by omega)⟩
      | true =>
        go_wp2_with fail
        with_reducible refine (changed_asc S _ b _ _ s2 (by omega) (by omega) (by decide) (by decide) HBA.out (asc_lit (by decide))).mono ?_
        rintro e w3 ⟨r, ⟨hr, hra⟩, rfl, k3, s3⟩
        have HG3 := Lib.hid (grown_trans HG2.out k3)
        have HRA := Lib.hid hra
        clear hra
        go_wp2_with fail
        go_ret
        exact ⟨r, ⟨by omega, HRA.out⟩, rfl, HG3.out, strm_mono s3 (by omega)⟩

set_option maxRecDepth 100000 in
set_option maxHeartbeats 4000000 in
theorem code_asc (S : SC) (K : Nat) (w : World) (s0 : Strm w S K) (hK : K ≤ 8000) :
    Calls Tryz.prog 5 #[S.p] w (GenS S (K + 60) w fun r => r.size ≤ 500 ∧ ascB r) := by
  go_enter Tryz.func5, Tryz.ntmps5
  go_wp2_with fail
  with_reducible refine (codeBody_asc S _ _ s0 (by omega)).mono ?_
  rintro e w1 ⟨b, ⟨hb, hba⟩, rfl, k1, s1⟩
  clear s0
  have hss := sealO_size b
  have HSA := Lib.hid (sealO_asc b hba)
  clear hba
  go_wp2_with fail
  with_reducible refine (SealOf_any b _ (by omega)).mono ?_
  rintro e w2 ⟨rfl, b2⟩
  have g2 := grown_trans k1 (grown_of_below b2 (some S.g))
  have s2 := strm_below s1 b2
  have HG2 := Lib.hid g2
  clear k1 b2 s1 g2
  generalize sealO b = O at *
  obtain ⟨c, E⟩ := O
  by_cases hE : E = 0
  · subst hE
    go_wp2_with fail
    with_reducible refine (flip_any S _ _ _ s2 (by omega) (by omega)).mono ?_
    rintro e w3 ⟨f, rfl, k3, s3⟩
    have HG3 := Lib.hid (grown_trans HG2.out k3)
    have hcs : c.size ≤ 205 := by omega
    clear hss k3
    cases f with
    | false =>
      go_wp2_with fail
      go_ret
      exact ⟨c, ⟨by omega, HSA.out⟩, rfl, HG3.out, strm_mono s3 (by omega)⟩
    | true =>
      go_wp2_with fail
      with_reducible refine (changed_asc S _ c _ _ s3 (by omega) (by omega) (by decide) (by decide) HSA.out (asc_lit (by decide))).mono ?_
      rintro e w4 ⟨r, ⟨hr, hra⟩, rfl, k4, s4⟩
      have HG4 := Lib.hid (grown_trans HG3.out k4)
      have HRA := Lib.hid hra
      clear hra
      go_wp2_with fail
      go_ret
      exact ⟨r, ⟨by omega, HRA.out⟩, rfl, HG4.out, strm_mono s4 (by omega)⟩
  · go_wp2_with fail
    with_reducible refine (one_at S _ [⟨#[]⟩, ⟨#[49, 50, 51, 67]⟩, ⟨#[49, 50, 51, 68]⟩, ⟨#[49, 50]⟩, ⟨#[49, 50, 79, 51]⟩] 5 _ _ _ _ s2 (by omega) rfl (by omega) (by omega) (by simp) (by simp)).mono ?_
    rintro e w3 ⟨r, hr, rfl, k3, s3⟩
    have HG3 := Lib.hid (grown_trans HG2.out k3)
    have hrs : r.size ≤ 500 := by
      simp only [List.mem_cons, List.mem_nil_iff, or_false] at hr
      rcases hr with rfl | rfl | rfl | rfl | rfl <;> decide
    have HRA := Lib.hid (show ascB r by
      simp only [List.mem_cons, List.mem_nil_iff, or_false] at hr
      rcases hr with rfl | rfl | rfl | rfl | rfl <;> exact asc_lit (by decide))
    go_wp2_with fail
    go_ret
    exact ⟨r, ⟨hrs, HRA.out⟩, rfl, HG3.out, strm_mono s3 (by omega)⟩
end Go.Proofs.YtdcanlkdhbmknaaGreatDoor
