/- The maker of letters that were sent: Stream.SentList. -/
import Derived.Test.YtdnikegakcdcnaaDoorSentSpec
import Derived.Test.YtdnikegakcdcnaaDoorKey
import Derived.Test.YtdnikegakcdcnaaDoorPickAt
set_option linter.unusedVariables false
namespace Go.Proofs.YtdnikegakcdcnaaDoor
open Go.RowKit

theorem infoSent : (Tryd.prog.info? 122).map (fun i => (i.zero, i.size, i.bytes)) = some (some (.agg #[.string ⟨#[]⟩, .string ⟨#[]⟩, .string ⟨#[]⟩, .int .i64 0]), 4, 56) := by kernel_rfl

theorem enc_size (n : Int) (h0 : 0 ≤ n) (h1 : n < 128) : (Utf8.encode n).size ≤ 4 := by
  unfold Utf8.encode
  split
  · have hc : n.toNat < 128 := by omega
    simp only [hc, if_true]
    show 1 ≤ 4
    omega
  · show 3 ≤ 4
    omega
theorem size_pre (c : UInt8) (R : ByteArray) (h : R.size ≤ 4) : ((⟨#[c]⟩ : ByteArray) ++ R).size ≤ 5 := by
  rw [ByteArray.size_append]
  show 1 + R.size ≤ 5
  omega

set_option maxRecDepth 100000 in
set_option maxHeartbeats 4000000 in
theorem sentList_any (S : SC) (K : Nat) (most : Int) (w : World) (s0 : Strm w S K) (hK : K ≤ 10000) (hm1 : 1 ≤ most) (hm2 : most ≤ 20) :
    Calls Tryd.prog 10 #[S.p, .int .i64 most] w (GenR S (K + 120) w 4 Snt.cells fun l => l.length ≤ 20 ∧ ∀ x ∈ l, x.ok) := by
  obtain ⟨i0, hi, hz0, hz1, hz2⟩ := info_parts infoSent
  go_enter Tryd.func10, Tryd.ntmps10
  go_wp2_with fail
  with_reducible refine (next_any S _ _ _ s0 (by omega) (by omega)).mono ?_
  rintro e w1 ⟨m', ⟨hm0, hmx, -⟩, rfl, k1, s1⟩
  have hmx2 := hmx (by omega)
  obtain ⟨m, rfl⟩ := Int.eq_ofNat_of_zero_le hm0
  have hS1 := strm_lt s1
  have hw1 := k1.size
  have L1 : LstR w w1.heap.size w1 S (K + 1) 122 4 Snt.cells (.slice none 0 0) [] := ⟨World.ownsRow_nil _ _ _ _, s1, k1, Nat.le_refl _⟩
  clear k1 s1 hm0 hmx s0
  go_wp2_with fail
  go_loopw [5, 6, 7, 13] (fun v t _ i wr => ∃ (k : Nat) (l : List Snt) (z : Int), k ≤ m ∧ i = .int .i64 k ∧ l.length = k ∧ t = .int .i64 z ∧ 0 ≤ z ∧ z ≤ 100 * k ∧ (∀ x ∈ l, x.ok) ∧ LstR w w1.heap.size wr S (K + 1 + 5 * k) 122 4 Snt.cells v l) (fun _ _ _ i _ => m - (intOf i).toNat)
  case atStart => exact ⟨0, [], 0, Nat.zero_le _, rfl, rfl, rfl, by omega, by omega, by simp, L1⟩
  case round =>
    obtain ⟨k, l, z, hk, rfl, hl, rfl, hz1', hz2', hok, hL⟩ := hrel
    have HL := Lib.hid hL
    have HOK := Lib.hid hok
    have hll := Lib.hid hl
    have s2 := hL.2.1
    clear hL L1 hok hl
    by_cases hlt : k < m
    · go_wp2_with fail
      with_reducible refine (pick_at S _ [0, 1, 10, 100] 4 _ _ _ _ s2 (by omega) rfl (by omega) (by omega) (by simp) (by simp)).mono ?_
      rintro e w2 ⟨y, hy, rfl, k2, s3⟩
      have hy' : 0 ≤ y ∧ y ≤ 100 := by
        simp only [List.mem_cons, List.mem_nil_iff, or_false] at hy
        omega
      have HL2 := Lib.hid (HL.out.draw k2 s3 hS1)
      clear HL k2 s2 hy
      obtain ⟨R, hR⟩ : ∃ R, Utf8.encode (97 + (k : Int)) = R := ⟨_, rfl⟩
      have hRs : R.size ≤ 4 := by rw [← hR]; exact enc_size _ (by omega) (by omega)
      go_wp2_with fail
      clear hR
      have HID := Lib.hid (size_pre 115 R hRs)
      generalize (⟨#[115]⟩ : ByteArray) ++ R = id at *
      have hids := HID.out
      with_reducible refine (key_at S _ [⟨#[97, 110, 110]⟩, ⟨#[98, 111]⟩] 2 _ _ _ _ s3 (by omega) rfl (by omega) (by omega) (by simp) (by simp)).mono ?_
      rintro e w3 ⟨person, hpe, rfl, k3, s3'⟩
      have hpes : person.size ≤ 100 := by
        rcases hpe with h | h <;> simp only [List.mem_cons, List.mem_nil_iff, or_false] at h <;> rcases h with rfl | h <;> first | decide | (rcases h with rfl | h <;> first | decide | (subst h; decide)) | (subst h; decide)
      have HL3 := Lib.hid (HL2.out.draw k3 s3' hS1)
      clear HL2 k3 s3 hpe
      go_wp2_with fail
      with_reducible refine (key_at S _ [⟨#[104, 101, 108, 108, 111]⟩, ⟨#[110, 101, 119, 115]⟩, ⟨#[111, 102, 102, 101, 114]⟩] 3 _ _ _ _ s3' (by omega) rfl (by omega) (by omega) (by simp) (by simp)).mono ?_
      rintro e w4 ⟨letter, hpe, rfl, k4, s4⟩
      have hles : letter.size ≤ 100 := by
        rcases hpe with h | h <;> simp only [List.mem_cons, List.mem_nil_iff, or_false] at h <;> rcases h with rfl | h <;> first | decide | (rcases h with rfl | h <;> first | decide | (subst h; decide)) | (subst h; decide)
      have HL4 := Lib.hid (HL3.out.draw k4 s4 hS1)
      clear HL3 k4 s4 hpe s3'
      have own4 := HL4.out.1
      have hw4 := HL4.out.2.2.2
      have hnl : l.length ≤ 20 := by have := hll.out; omega
      go_wp2_with (at_builtin; refine wpList_append_own _ rfl _ _ 26 rfl w1.heap.size 122 i0 _ 4 56 Tryd.underlying26 hi hz0 hz1 hz2 rfl (by decide) _ _ _ rfl (own4.alloc _) ⟨w4.heap.size, 0, none⟩ 1 1 [.string id, .string person, .string letter, .int .i64 (z + y)] rfl rfl ?c1 ?c2 ?c3 ?c4 ?c5 ?_)
      case c1 => exact cells_new w4 #[.string id, .string person, .string letter, .int .i64 (z + y)] 122
      case c2 => simp [Value.oneCell']
      case c3 => unfold maxLen; omega
      case c4 => omega
      case c5 => simp; omega
      intro v2 w5 own5 hgrow5 hne5
      have HL5 := Lib.hid (HL4.out.snoc (x := ⟨id, person, letter, z + y⟩) hS1 hw1 own5 hgrow5)
      clear hne5 own5 hgrow5 HL4 own4
      go_wp2_with fail
      go_roundw
      case rel => exact ⟨k + 1, l ++ [⟨id, person, letter, z + y⟩], z + y, by omega, by go_num, by simp [hll.out], rfl, by omega, by omega, fun x hx => by
          rcases List.mem_append.1 hx with hx | hx
          · exact HOK.out x hx
          · obtain rfl := List.mem_singleton.1 hx
            exact ⟨by simp only; omega, hpes, hles, by simp only; omega, by simp only; omega⟩, by
          obtain ⟨q1, q2, q3, q4⟩ := HL5.out
          exact ⟨q1, strm_mono q2 (by omega), q3, q4⟩⟩
      case measure => simp [intOf]; omega
    · obtain rfl : k = m := by omega
      have hkl := hll.out
      have hnl : l.length ≤ 20 := by omega
      go_wp2_with fail
      with_reducible refine (flip_any S _ _ _ s2 (by omega) (by omega)).mono ?_
      rintro e w3 ⟨b, rfl, k3, s3⟩
      have HL3 := Lib.hid (HL.out.draw k3 s3 hS1)
      have own3 := HL3.out.1
      have HX := Lib.hid (HL3.out.gen (K' := K + 120) (P := fun l => l.length ≤ 20 ∧ ∀ x ∈ l, x.ok) hS1 (by omega) (fun x _ => x.len) ⟨by omega, HOK.out⟩)
      clear HL k3 s2
      cases b with
      | false =>
        go_wp2_with fail
        go_ret
        exact HX.out
      | true =>
        rcases own3.2 with ⟨rfl, h0⟩ | ⟨g, cap, cur, rfl, hbg, hg, hnc, hcm, hcs, htake⟩
        · go_wp2_with fail
          go_ret
          exact HX.out
        · clear hg hcs htake
          by_cases hk0 : l.length = 0
          · have HX' := HX.out
            rw [hk0] at HX'
            have HX2 := Lib.hid HX'
            clear HX HX'
            rw [hk0]
            go_wp2_with fail
            go_ret
            exact HX2.out
          · have hlp : 0 < l.length := by omega
            clear HX hkl
            generalize hn : l.length = n at *
            have HN := Lib.hid hn
            clear hn
            go_wp2_with fail
            with_reducible refine (next_any S _ _ _ s3 (by omega) (by omega)).mono ?_
            rintro e w4 ⟨r, ⟨hr0, hr1, -⟩, rfl, k4, s4⟩
            have hr2 := hr1 (by omega)
            obtain ⟨j, rfl⟩ := Int.eq_ofNat_of_zero_le hr0
            have hj : j < n := by omega
            have HL4 := Lib.hid (HL3.out.draw k4 s4 hS1)
            clear hr0 hr1 hr2 HL3 k4 s3 own3
            go_wp2_with fail
            with_reducible refine (next_any S _ _ _ s4 (by omega) (by omega)).mono ?_
            rintro e w5 ⟨r, ⟨hr0, hr1, -⟩, rfl, k5, s5⟩
            have hr2 := hr1 (by omega)
            have HL5 := Lib.hid (HL4.out.draw k5 s5 hS1)
            clear hr1 HL4 k5 s4
            have hjl : j < l.length := by have := HN.out; omega
            have hxok := Lib.hid (HOK.out l[j] (List.getElem_mem hjl))
            rcases (show r = 0 ∨ r = 1 ∨ r = 2 by omega) with rfl | rfl | rfl
            · go_wp2_with fail
              with_reducible refine (one_at S _ [⟨#[]⟩, ⟨#[115, 97]⟩, ⟨#[83]⟩] 3 _ _ _ _ s5 (by omega) rfl (by omega) (by omega) (by simp) (by simp)).mono ?_
              rintro e w6 ⟨s, hs, rfl, k6, s6⟩
              have hs' : s.size ≤ 100 := by
                simp only [List.mem_cons, List.mem_nil_iff, or_false] at hs
                rcases hs with rfl | hs <;> first | decide | (rcases hs with rfl | rfl <;> decide) | (subst hs; decide)
              have HL6 := Lib.hid (HL5.out.draw k6 s6 hS1)
              have own6 := HL6.out.1
              rw [HN.out] at own6
              have hc6 : w6.cell? ⟨g, j * 4 + 0, none⟩ = some (.string l[j].id) := by
                rw [own6.cellAt _ (by omega), fm_get 4 Snt.cells l (fun x _ => x.len) j 0 hjl (by omega)]
                rfl
              have hf6 : w6.frozen? ⟨g, j * 4 + 0, none⟩ = false := own6.frozenAt _
              have HS := Lib.hid (HL6.out.set (j := j) (i := 0) (u := .string s) (x' := ⟨s, l[j].person, l[j].letter, l[j].at_⟩) hS1 hw1 HN.out (fun x _ => x.len) hjl (by omega) rfl)
              simp only [Nat.add_zero] at hc6 hf6 HS
              clear own6 HL6 HL5 k6 s6 s5 hs
              go_wp2_with fail
              go_ret
              have := HS.out.gen (K' := K + 120) (P := fun l => l.length ≤ 20 ∧ ∀ x ∈ l, x.ok) hS1 (by omega) (fun x _ => x.len) ⟨by simp; have := HN.out; omega, fun x hx => by
                rcases List.mem_or_eq_of_mem_set hx with hx | rfl
                · exact HOK.out x hx
                · obtain ⟨o1, o2, o3, o4, o5⟩ := hxok.out
                  exact ⟨hs', o2, o3, o4, o5⟩⟩
              exact this
            · go_wp2_with fail
              with_reducible refine (pick_at S _ [-1, 4321440, 0] 3 _ _ _ _ s5 (by omega) rfl (by omega) (by omega) (by simp) (by simp)).mono ?_
              rintro e w6 ⟨s, hs, rfl, k6, s6⟩
              have hs' : -1 ≤ s ∧ s ≤ 4321440 := by
                simp only [List.mem_cons, List.mem_nil_iff, or_false] at hs
                omega
              have HL6 := Lib.hid (HL5.out.draw k6 s6 hS1)
              have own6 := HL6.out.1
              rw [HN.out] at own6
              have hc6 : w6.cell? ⟨g, j * 4 + 3, none⟩ = some (.int .i64 l[j].at_) := by
                rw [own6.cellAt _ (by omega), fm_get 4 Snt.cells l (fun x _ => x.len) j 3 hjl (by omega)]
                rfl
              have hf6 : w6.frozen? ⟨g, j * 4 + 3, none⟩ = false := own6.frozenAt _
              have HS := Lib.hid (HL6.out.set (j := j) (i := 3) (u := .int .i64 s) (x' := ⟨l[j].id, l[j].person, l[j].letter, s⟩) hS1 hw1 HN.out (fun x _ => x.len) hjl (by omega) rfl)
              clear own6 HL6 HL5 k6 s6 s5 hs
              go_wp2_with fail
              go_ret
              have := HS.out.gen (K' := K + 120) (P := fun l => l.length ≤ 20 ∧ ∀ x ∈ l, x.ok) hS1 (by omega) (fun x _ => x.len) ⟨by simp; have := HN.out; omega, fun x hx => by
                rcases List.mem_or_eq_of_mem_set hx with hx | rfl
                · exact HOK.out x hx
                · obtain ⟨o1, o2, o3, o4, o5⟩ := hxok.out
                  exact ⟨o1, o2, o3, by simp only; omega, by simp only; omega⟩⟩
              exact this
            · go_wp2_with fail
              with_reducible refine (one_at S _ [⟨#[]⟩, ⟨#[88]⟩] 2 _ _ _ _ s5 (by omega) rfl (by omega) (by omega) (by simp) (by simp)).mono ?_
              rintro e w6 ⟨s, hs, rfl, k6, s6⟩
              have hs' : s.size ≤ 100 := by
                simp only [List.mem_cons, List.mem_nil_iff, or_false] at hs
                rcases hs with rfl | rfl <;> decide
              have HL6 := Lib.hid (HL5.out.draw k6 s6 hS1)
              have own6 := HL6.out.1
              rw [HN.out] at own6
              have hc6 : w6.cell? ⟨g, j * 4 + 2, none⟩ = some (.string l[j].letter) := by
                rw [own6.cellAt _ (by omega), fm_get 4 Snt.cells l (fun x _ => x.len) j 2 hjl (by omega)]
                rfl
              have hf6 : w6.frozen? ⟨g, j * 4 + 2, none⟩ = false := own6.frozenAt _
              have HS := Lib.hid (HL6.out.set (j := j) (i := 2) (u := .string s) (x' := ⟨l[j].id, l[j].person, s, l[j].at_⟩) hS1 hw1 HN.out (fun x _ => x.len) hjl (by omega) rfl)
              clear own6 HL6 HL5 k6 s6 s5 hs
              go_wp2_with fail
              go_ret
              have := HS.out.gen (K' := K + 120) (P := fun l => l.length ≤ 20 ∧ ∀ x ∈ l, x.ok) hS1 (by omega) (fun x _ => x.len) ⟨by simp; have := HN.out; omega, fun x hx => by
                rcases List.mem_or_eq_of_mem_set hx with hx | rfl
                · exact HOK.out x hx
                · obtain ⟨o1, o2, o3, o4, o5⟩ := hxok.out
                  exact ⟨o1, o2, hs', o4, o5⟩⟩
              exact this
end Go.Proofs.YtdnikegakcdcnaaDoor
