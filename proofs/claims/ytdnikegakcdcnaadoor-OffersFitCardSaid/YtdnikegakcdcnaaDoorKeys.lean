/- The maker of keys: Stream.Keys. -/
import Derived.Test.YtdnikegakcdcnaaDoorRecs
import Derived.Test.YtdnikegakcdcnaaDoorKey
import Derived.Test.YtdnikegakcdcnaaDoorSentList
set_option linter.unusedVariables false
namespace Go.Proofs.YtdnikegakcdcnaaDoor
open Go.RowKit

theorem infoStr : (Tryd.prog.info? 9).map (fun i => (i.zero, i.size, i.bytes)) = some (some (.string ⟨#[]⟩), 1, 16) := by kernel_rfl
/-- a string's cell -/
def sCell (s : ByteArray) : List Value := [.string s]

set_option maxRecDepth 100000 in
set_option maxHeartbeats 4000000 in
theorem keys_any (S : SC) (K : Nat) (w : World) (s0 : Strm w S K) (hK : K ≤ 10000) :
    Calls Tryd.prog 24 #[S.p] w (GenR S (K + 30) w 1 sCell fun l => l.length ≤ 20 ∧ ∀ x ∈ l, x.size ≤ 100) := by
  obtain ⟨i0, hi, hz0, hz1, hz2⟩ := info_parts infoStr
  go_enter Tryd.func24, Tryd.ntmps24
  go_wp2_with fail
  with_reducible refine (next_any S _ _ _ s0 (by omega) (by omega)).mono ?_
  rintro e w1 ⟨m', ⟨hm0, hmx, -⟩, rfl, k1, s1⟩
  have hmx2 := hmx (by omega)
  obtain ⟨m, rfl⟩ := Int.eq_ofNat_of_zero_le hm0
  have hS1 := strm_lt s1
  have hw1 := k1.size
  have L1 : LstR w w1.heap.size w1 S (K + 1) 9 1 sCell (.slice none 0 0) [] := ⟨World.ownsRow_nil _ _ _ _, s1, k1, Nat.le_refl _⟩
  clear k1 s1 hm0 hmx s0
  go_wp2_with fail
  go_loopw [3, 4, 7] (fun v _ i wr => ∃ (k : Nat) (l : List ByteArray), k ≤ m ∧ i = .int .i64 k ∧ l.length = k ∧ (∀ x ∈ l, x.size ≤ 100) ∧ LstR w w1.heap.size wr S (K + 1 + 2 * k) 9 1 sCell v l) (fun _ _ i _ => m - (intOf i).toNat)
  case atStart => exact ⟨0, [], Nat.zero_le _, rfl, rfl, by simp, L1⟩
  case round =>
    obtain ⟨k, l, hk, rfl, hl, hok, hL⟩ := hrel
    have HL := Lib.hid hL
    have HOK := Lib.hid hok
    have hll := Lib.hid hl
    have s2 := hL.2.1
    clear hL L1 hok hl
    by_cases hlt : k < m
    · obtain ⟨R, hR⟩ : ∃ R, Utf8.encode (97 + (k : Int)) = R := ⟨_, rfl⟩
      have hRs : R.size ≤ 4 := by rw [← hR]; exact enc_size _ (by omega) (by omega)
      go_wp2_with fail
      clear hR
      have HID := Lib.hid (size_pre 112 R hRs)
      have HIQ := Lib.hid (size_pre 113 R hRs)
      generalize (⟨#[112]⟩ : ByteArray) ++ R = id at *
      generalize (⟨#[113]⟩ : ByteArray) ++ R = iq at *
      have hids := HID.out
      have hiqs := HIQ.out
      with_reducible refine (key_at S _ [id, id, iq] 3 _ _ _ _ s2 (by omega) rfl (by omega) (by omega) (by simp) (by simp)).mono ?_
      rintro e w3 ⟨key, hpe, rfl, k3, s3⟩
      have hpes : key.size ≤ 100 := by
        rcases hpe with h | h <;> simp only [List.mem_cons, List.mem_nil_iff, or_false] at h
        · rcases h with rfl | rfl | rfl <;> omega
        · rcases h with rfl | rfl | rfl <;> decide
      have HL3 := Lib.hid (HL.out.draw k3 s3 hS1)
      clear HL k3 s2 hpe
      have own5 := HL3.out.1
      have hw5 := HL3.out.2.2.2
      have hnl : l.length ≤ 20 := by have := hll.out; omega
      go_wp2_with (at_builtin; refine wpList_append_own _ rfl _ _ 47 rfl w1.heap.size 9 i0 _ 1 16 Tryd.underlying47 hi hz0 hz1 hz2 rfl (by decide) _ _ _ rfl (own5.alloc _) ⟨w3.heap.size, 0, none⟩ 1 1 [.string key] rfl rfl ?c1 ?c2 ?c3 ?c4 ?c5 ?_)
      case c1 => exact cells_new w3 #[.string key] 9
      case c2 => simp [Value.oneCell']
      case c3 => unfold maxLen; omega
      case c4 => omega
      case c5 => simp; omega
      intro v2 w6 own6 hgrow6 hne6
      have HL6 := Lib.hid (HL3.out.snoc (x := key) hS1 hw1 own6 hgrow6)
      clear hne6 own6 hgrow6 HL3 own5
      go_wp2_with fail
      go_roundw
      case rel => exact ⟨k + 1, l ++ [key], by omega, by go_num, by simp [hll.out], fun x hx => by
          rcases List.mem_append.1 hx with hx | hx
          · exact HOK.out x hx
          · obtain rfl := List.mem_singleton.1 hx
            exact hpes, by
          obtain ⟨q1, q2, q3, q4⟩ := HL6.out
          exact ⟨q1, strm_mono q2 (by omega), q3, q4⟩⟩
      case measure => simp [intOf]; omega
    · obtain rfl : k = m := by omega
      have hkl := hll.out
      have hnl : l.length ≤ 20 := by omega
      go_wp2_with fail
      with_reducible refine (flip_any S _ _ _ s2 (by omega) (by omega)).mono ?_
      rintro e w3 ⟨b, rfl, k3, s3⟩
      have HL3 := Lib.hid (HL.out.draw k3 s3 hS1)
      have own3 := HL3.out.1
      have HX := Lib.hid (HL3.out.gen (K' := K + 30) (P := fun l => l.length ≤ 20 ∧ ∀ x ∈ l, x.size ≤ 100) hS1 (by omega) (fun x _ => rfl) ⟨by omega, HOK.out⟩)
      clear HL k3 s2
      cases b with
      | false =>
        go_wp2_with fail
        go_ret
        exact HX.out
      | true =>
        rcases own3.2 with ⟨rfl, h0⟩ | ⟨g, cap, cur, rfl, hbg, hg, hnc, hcm, hcs, htake⟩
        · go_wp2_with fail
          go_ret
          exact HX.out
        · clear hg hcs htake
          by_cases hk0 : l.length = 0
          · have HX' := HX.out
            rw [hk0] at HX'
            have HX2 := Lib.hid HX'
            clear HX HX'
            rw [hk0]
            go_wp2_with fail
            go_ret
            exact HX2.out
          · have hlp : 0 < l.length := by omega
            clear HX hkl
            have hc : w3.cell? ⟨g, 0, none⟩ = some (.string l[0]) := by
              have := own3.cellAt 0 (by omega)
              rw [this]
              cases l with
              | nil => simp at hlp
              | cons x l => rfl
            have hx0 := Lib.hid (HOK.out l[0] (List.getElem_mem hlp))
            generalize l[0] = x0 at *
            have own4 := own3
            have hw3 := HL3.out.2.2.2
            generalize hn : l.length = n at *
            have HN := Lib.hid hn
            clear hn own3
            go_wp2_with (at_builtin; refine wpList_append_own _ rfl _ _ 47 rfl w1.heap.size 9 i0 _ 1 16 Tryd.underlying47 hi hz0 hz1 hz2 rfl (by decide) _ _ _ rfl (own4.alloc _) ⟨w3.heap.size, 0, none⟩ 1 1 [.string x0] rfl rfl ?d1 ?d2 ?d3 ?d4 ?d5 ?_)
            case d1 => exact cells_new w3 #[.string x0] 9
            case d2 => simp [Value.oneCell']
            case d3 => unfold maxLen; omega
            case d4 => omega
            case d5 => simp; omega
            intro v2 w6 own6 hgrow6 hne6
            have own7 : w6.ownsRow w1.heap.size 9 1 v2 (l.length + 1) (l.flatMap sCell ++ sCell x0) := by rw [HN.out]; exact own6
            have HL6 := Lib.hid (HL3.out.snoc (x := x0) hS1 hw1 own7 hgrow6)
            clear hne6 own6 hgrow6 HL3 own4 own7
            go_wp2_with fail
            go_ret
            exact HL6.out.gen (K' := K + 30) (P := fun l => l.length ≤ 20 ∧ ∀ x ∈ l, x.size ≤ 100) hS1 (by omega) (fun x _ => rfl) ⟨by simp; have := HN.out; have := hll.out; omega, fun x hx => by
              rcases List.mem_append.1 hx with hx | hx
              · exact HOK.out x hx
              · obtain rfl := List.mem_singleton.1 hx
                exact hx0.out⟩
end Go.Proofs.YtdnikegakcdcnaaDoor
