/- The maker of budgets: Stream.Budgets (printed by gen_budmake.py). -/
import Derived.Test.YtdnikegakcdcnaaDoorBudSpec
import Derived.Test.YtdnikegakcdcnaaDoorChg
import Derived.Test.YtdnikegakcdcnaaDoorLists
set_option linter.unusedVariables false
namespace Go.Proofs.YtdnikegakcdcnaaDoor
open Go.RowKit

theorem Chg.strs {w w' : World} {B : Nat → Prop} {a : Option Addr} {l : List ByteArray} (h : Chg w w' B) (hr : StrsAt w a l) (hB : ∀ p off, a = some ⟨p, off, none⟩ → ¬ B p) : StrsAt w' a l := by
  intro j hj
  obtain ⟨p, off, h1, h2, h3⟩ := hr j hj
  exact ⟨p, off, h1, Nat.lt_of_lt_of_le h2 h.size, h.cell h3 (hB p off h1)⟩
theorem StrsAt.new (w : World) (l : List ByteArray) (t : TypeId) : StrsAt (w.alloc (.cells (l.map Value.string).toArray t)) (some ⟨w.heap.size, 0, none⟩) l := by
  intro j hj
  refine ⟨w.heap.size, 0, rfl, by simp, ?_⟩
  have hb := heap_alloc_new w (.cells (l.map Value.string).toArray t)
  simp only [World.cell?]
  rw [hb]
  simp [hj]
theorem infoBud : (Tryd.prog.info? 81).map (fun i => (i.zero, i.size, i.bytes)) = some (some (.agg #[.string ⟨#[]⟩, .int .i64 0, .int .i64 0, .int .i64 0, .bool false]), 5, 48) := by kernel_rfl
def budKeys : List ByteArray := [⟨#[109, 97, 121]⟩, ⟨#[106, 117, 110, 101]⟩, ⟨#[97, 108, 108]⟩]
theorem budKeys_size (k : Nat) (h : k < budKeys.length) : budKeys[k].size ≤ 4 := by
  have h' : ∀ x ∈ budKeys, x.size ≤ 4 := by decide
  exact h' _ (List.getElem_mem h)

set_option maxRecDepth 100000 in
set_option maxHeartbeats 8000000 in
theorem budgets_any (S : SC) (K : Nat) (w : World) (s0 : Strm w S K) (hK : K ≤ 10000) :
    Calls Tryd.prog 50 #[S.p] w (GenR S (K + 30) w 5 Bd.cells fun l => l.length ≤ 3 ∧ ∀ x ∈ l, x.ok) := by
  obtain ⟨i0, hi, hz0, hz1, hz2⟩ := info_parts infoBud
  have hS0 := strm_lt s0
  have L1 : LstR w (w.heap.size + 1) (w.alloc (.cells (budKeys.map Value.string).toArray 9)) S K 81 5 Bd.cells (.slice none 0 0) [] := ⟨World.ownsRow_nil _ _ _ _, strm_alloc s0 _, World.grownBy_alloc w _ _, by simp⟩
  have T1 := StrsAt.new w budKeys 9
  have HL1 := Lib.hid L1
  have HT1 := Lib.hid T1
  clear L1 T1 s0
  go_enter Tryd.func50, Tryd.ntmps50
  go_wp2_with fail
  go_loopw [3, 5, 6, 10] (fun v _ _ i wr => ∃ (k : Nat) (l : List Bd), k ≤ 3 ∧ i = .int .i64 k ∧ l.length ≤ k ∧ (∀ x ∈ l, x.ok) ∧ LstR w (w.heap.size + 1) wr S (K + 6 * k) 81 5 Bd.cells v l ∧ StrsAt wr (some ⟨w.heap.size, 0, none⟩) budKeys) (fun _ _ _ i _ => 3 - (intOf i).toNat)
  case atStart => exact ⟨0, [], Nat.zero_le _, rfl, Nat.le_refl _, by simp, HL1.out, HT1.out⟩
  case round =>
    obtain ⟨k, l, hk, rfl, hl, hok, hL, hT⟩ := hrel
    have HL := Lib.hid hL
    have HT := Lib.hid hT
    have HOK := Lib.hid hok
    have s2 := hL.2.1
    have hS1 : S.g < w.heap.size + 1 := by omega
    have hne : w.heap.size ≠ S.g := by omega
    have hw1 : w.heap.size ≤ w.heap.size + 1 := by omega
    clear hL HL1 HT1 hok
    by_cases hlt : k < 3
    · have hkl : k < budKeys.length := hlt
      obtain ⟨p, off, hp, hpl, c0⟩ := hT k hkl
      injection hp with hp
      injection hp with hp1 hp2
      subst hp1 hp2
      have hks := budKeys_size k hkl
      obtain ⟨key, hkey⟩ : ∃ key, budKeys[k] = key := ⟨_, rfl⟩
      rw [hkey] at c0 hks
      rw [Nat.zero_add] at c0
      clear hkey hT
      go_wp2_with fail
      with_reducible refine (flip_any S _ _ _ s2 (by omega) (by omega)).mono ?_
      rintro e w3 ⟨b, rfl, k3, s3⟩
      have HL3 := Lib.hid (HL.out.draw k3 s3 hS1)
      have HT3 := Lib.hid (HT.out.grown k3 (fun p off e => by injection e with e; injection e with e1; omega))
      clear HL HT k3 s2 c0 hpl
      cases b with
      | true =>
        go_wp2_with fail
        go_roundw
        case rel => exact ⟨k + 1, l, by omega, by go_num, by omega, HOK.out, (by
          obtain ⟨q1, q2, q3, q4⟩ := HL3.out
          exact ⟨q1, strm_mono q2 (by omega), q3, q4⟩), HT3.out⟩
        case measure => simp [intOf]; omega
      | false =>
        go_wp2_with fail
        with_reducible refine (pick_at S _ [0, 0, 1, 5] 4 _ _ _ _ s3 (by omega) rfl (by omega) (by omega) (by simp) (by simp)).mono ?_
        rintro e w4 ⟨first, hfi, rfl, k4, s4⟩
        have hfi' : 0 ≤ first ∧ first ≤ 5 := by
          simp only [List.mem_cons, List.mem_nil_iff, or_false] at hfi
          omega
        have HL4 := Lib.hid (HL3.out.draw k4 s4 hS1)
        have HT4 := Lib.hid (HT3.out.grown k4 (fun p off e => by injection e with e; injection e with e1; omega))
        clear HL3 HT3 k4 s3 hfi
        obtain ⟨hf0, hf1⟩ := hfi'
        go_wp2_with fail
        with_reducible refine (pick_at S _ [0, 100, 1000, 1001, 1000000000000] 5 _ _ _ _ s4 (by omega) rfl (by omega) (by omega) (by simp) (by simp)).mono ?_
        rintro e w5 ⟨cents, hce, rfl, k5, s5⟩
        have hce' : 0 ≤ cents ∧ cents ≤ 1000000000000 := by
          simp only [List.mem_cons, List.mem_nil_iff, or_false] at hce
          omega
        have HL5 := Lib.hid (HL4.out.draw k5 s5 hS1)
        have HT5 := Lib.hid (HT4.out.grown k5 (fun p off e => by injection e with e; injection e with e1; omega))
        clear HL4 HT4 k5 s4 hce
        go_wp2_with fail
        with_reducible refine (pick_at S _ [0, 2, 9, 2000] 4 _ _ _ _ s5 (by omega) rfl (by omega) (by omega) (by simp) (by simp)).mono ?_
        rintro e w6 ⟨more, hmo, rfl, k6, s6⟩
        have hmo' : 0 ≤ more ∧ more ≤ 2000 := by
          simp only [List.mem_cons, List.mem_nil_iff, or_false] at hmo
          omega
        have HL6 := Lib.hid (HL5.out.draw k6 s6 hS1)
        have HT6 := Lib.hid (HT5.out.grown k6 (fun p off e => by injection e with e; injection e with e1; omega))
        clear HL5 HT5 k6 s5 hmo
        go_wp2_with fail
        with_reducible refine (flip_any S _ _ _ s6 (by omega) (by omega)).mono ?_
        rintro e w7 ⟨pace, rfl, k7, s7⟩
        have HL7 := Lib.hid (HL6.out.draw k7 s7 hS1)
        have HT7 := Lib.hid (HT6.out.grown k7 (fun p off e => by injection e with e; injection e with e1; omega))
        clear HL6 HT6 k7 s6
        have own7 := HL7.out.1
        have hw7 := HL7.out.2.2.2
        go_wp2_with (at_builtin; refine wpList_append_own _ rfl _ _ 76 rfl (w.heap.size + 1) 81 i0 _ 5 48 Tryd.underlying76 hi hz0 hz1 hz2 rfl (by decide) _ _ _ rfl (own7.alloc _) ⟨w7.heap.size, 0, none⟩ 1 1 [.string key, .int .i64 cents, .int .i64 first, .int .i64 (first + more), .bool pace] rfl rfl ?c1 ?c2 ?c3 ?c4 ?c5 ?_)
        case c1 => exact cells_new w7 #[.string key, .int .i64 cents, .int .i64 first, .int .i64 (first + more), .bool pace] 81
        case c2 => simp [Value.oneCell']
        case c3 => unfold maxLen; omega
        case c4 => omega
        case c5 => simp; omega
        intro v2 w8 own8 hgrow8 hne8
        have HL8 := Lib.hid (HL7.out.snoc (x := ⟨key, cents, first, first + more, pace⟩) hS1 hw1 own8 hgrow8)
        have HT8 := Lib.hid ((Chg.of_grown (B := fun q => w.heap.size + 1 ≤ q) hgrow8 (fun q hq => (own7.lt q hq).1)).strs (HT7.out.below ((Below.refl _ _).alloc (Nat.le_refl _) _)) (fun p off e => by injection e with e; injection e with e1; omega))
        clear hne8 own8 hgrow8 HL7 HT7 own7
        go_wp2_with fail
        go_roundw
        case rel => exact ⟨k + 1, l ++ [⟨key, cents, first, first + more, pace⟩], by omega, by go_num, by simp; omega, fun x hx => (by
            rcases List.mem_append.1 hx with hx | hx
            · exact HOK.out x hx
            · obtain rfl := List.mem_singleton.1 hx
              exact ⟨by simp only; omega, by simp only; omega, by simp only; omega, by simp only; omega, by simp only; omega, by simp only; omega, by simp only; omega⟩), (by
            obtain ⟨q1, q2, q3, q4⟩ := HL8.out
            exact ⟨q1, strm_mono q2 (by omega), q3, q4⟩), HT8.out⟩
        case measure => simp [intOf]; omega
    · obtain rfl : k = 3 := by omega
      clear hT HT
      go_wp2_with fail
      with_reducible refine (flip_any S _ _ _ s2 (by omega) (by omega)).mono ?_
      rintro e w3 ⟨b, rfl, k3, s3⟩
      have HL3 := Lib.hid (HL.out.draw k3 s3 hS1)
      have own3 := HL3.out.1
      have HX := Lib.hid (HL3.out.gen (K' := K + 30) (P := fun l => l.length ≤ 3 ∧ ∀ x ∈ l, x.ok) hS1 (by omega) (fun x _ => x.len) ⟨hl, HOK.out⟩)
      clear HL k3 s2
      cases b with
      | false =>
        go_wp2_with fail
        go_ret
        exact HX.out
      | true =>
        rcases own3.2 with ⟨rfl, h0⟩ | ⟨g, cap, cur, rfl, hbg, hg, hnc, hcm, hcs, htake⟩
        · go_wp2_with fail
          go_ret
          exact HX.out
        · clear hg hcs htake
          by_cases hk0 : l.length = 0
          · have HX' := HX.out
            rw [hk0] at HX'
            have HX2 := Lib.hid HX'
            clear HX HX'
            rw [hk0]
            go_wp2_with fail
            go_ret
            exact HX2.out
          · have hlp : 0 < l.length := by omega
            clear HX
            generalize hn : l.length = n at *
            have HN := Lib.hid hn
            clear hn
            go_wp2_with fail
            with_reducible refine (next_any S _ _ _ s3 (by omega) (by omega)).mono ?_
            rintro e w4 ⟨r, ⟨hr0, hr1, -⟩, rfl, k4, s4⟩
            have hr2 := hr1 (by omega)
            obtain ⟨j, rfl⟩ := Int.eq_ofNat_of_zero_le hr0
            have hj : j < n := by omega
            have HL4 := Lib.hid (HL3.out.draw k4 s4 hS1)
            clear hr0 hr1 hr2 HL3 k4 s3 own3
            go_wp2_with fail
            with_reducible refine (next_any S _ _ _ s4 (by omega) (by omega)).mono ?_
            rintro e w5 ⟨r, ⟨hr0, hr1, -⟩, rfl, k5, s5⟩
            have hr2 := hr1 (by omega)
            have HL5 := Lib.hid (HL4.out.draw k5 s5 hS1)
            clear hr1 HL4 k5 s4
            have hjl : j < l.length := by have := HN.out; omega
            have hxok := Lib.hid (HOK.out l[j] (List.getElem_mem hjl))
            rcases (show r = 0 ∨ r = 1 ∨ r = 2 ∨ r = 3 by omega) with rfl | rfl | rfl | rfl
            · go_wp2_with fail
              with_reducible refine (one_at S _ [⟨#[]⟩, ⟨#[109, 97, 121]⟩, ⟨#[77, 97, 121]⟩] 3 _ _ _ _ s5 (by omega) rfl (by omega) (by omega) (by simp) (by simp)).mono ?_
              rintro e w6 ⟨s, hs, rfl, k6, s6⟩
              have hs' : s.size ≤ 100 := by
                simp only [List.mem_cons, List.mem_nil_iff, or_false] at hs
                rcases hs with rfl | hs <;> first | decide | (rcases hs with rfl | rfl <;> decide) | (subst hs; decide)
              have HL6 := Lib.hid (HL5.out.draw k6 s6 hS1)
              have own6 := HL6.out.1
              rw [HN.out] at own6
              have hc6 : w6.cell? ⟨g, j * 5 + 0, none⟩ = some (.string l[j].key) := by
                rw [own6.cellAt _ (by omega), fm_get 5 Bd.cells l (fun x _ => x.len) j 0 hjl (by omega)]
                rfl
              have hf6 : w6.frozen? ⟨g, j * 5 + 0, none⟩ = false := own6.frozenAt _
              have HS := Lib.hid (HL6.out.set (j := j) (i := 0) (u := .string s) (x' := ⟨s, l[j].cents, l[j].first, l[j].last, l[j].pace⟩) hS1 hw1 HN.out (fun x _ => x.len) hjl (by omega) rfl)
              simp only [Nat.add_zero] at hc6 hf6 HS
              clear own6 HL6 HL5 k6 s6 s5 hs
              go_wp2_with fail
              go_ret
              have := HS.out.gen (K' := K + 30) (P := fun l => l.length ≤ 3 ∧ ∀ x ∈ l, x.ok) hS1 (by omega) (fun x _ => x.len) ⟨by simp; have := HN.out; omega, fun x hx => by
                rcases List.mem_or_eq_of_mem_set hx with hx | rfl
                · exact HOK.out x hx
                · obtain ⟨o1, o2, o3, o4, o5, o6, o7⟩ := hxok.out
                  exact ⟨hs', o2, o3, o4, o5, o6, o7⟩⟩
              exact this
            · go_wp2_with fail
              with_reducible refine (pick_at S _ [-1, 1000000000001] 2 _ _ _ _ s5 (by omega) rfl (by omega) (by omega) (by simp) (by simp)).mono ?_
              rintro e w6 ⟨s, hs, rfl, k6, s6⟩
              have hs' : -1 ≤ s ∧ s ≤ 1000000000001 := by
                simp only [List.mem_cons, List.mem_nil_iff, or_false] at hs
                omega
              have HL6 := Lib.hid (HL5.out.draw k6 s6 hS1)
              have own6 := HL6.out.1
              rw [HN.out] at own6
              have hc6 : w6.cell? ⟨g, j * 5 + 1, none⟩ = some (.int .i64 l[j].cents) := by
                rw [own6.cellAt _ (by omega), fm_get 5 Bd.cells l (fun x _ => x.len) j 1 hjl (by omega)]
                rfl
              have hf6 : w6.frozen? ⟨g, j * 5 + 1, none⟩ = false := own6.frozenAt _
              have HS := Lib.hid (HL6.out.set (j := j) (i := 1) (u := .int .i64 s) (x' := ⟨l[j].key, s, l[j].first, l[j].last, l[j].pace⟩) hS1 hw1 HN.out (fun x _ => x.len) hjl (by omega) rfl)
              clear own6 HL6 HL5 k6 s6 s5 hs
              go_wp2_with fail
              go_ret
              have := HS.out.gen (K' := K + 30) (P := fun l => l.length ≤ 3 ∧ ∀ x ∈ l, x.ok) hS1 (by omega) (fun x _ => x.len) ⟨by simp; have := HN.out; omega, fun x hx => by
                rcases List.mem_or_eq_of_mem_set hx with hx | rfl
                · exact HOK.out x hx
                · obtain ⟨o1, o2, o3, o4, o5, o6, o7⟩ := hxok.out
                  exact ⟨o1, by simp only; omega, by simp only; omega, o4, o5, o6, o7⟩⟩
              exact this
            · obtain ⟨o1, o2, o3, o4, o5, o6, o7⟩ := hxok.out
              have hc5 : w5.cell? ⟨g, j * 5 + 3, none⟩ = some (.int .i64 l[j].last) := by
                have own5 := HL5.out.1
                rw [HN.out] at own5
                rw [own5.cellAt _ (by omega), fm_get 5 Bd.cells l (fun x _ => x.len) j 3 hjl (by omega)]
                rfl
              have hlx := Lib.hid (show ∀ x, l[j].last = x → l[j].last = x from fun _ h => h)
              go_wp2_with fail
              with_reducible refine (pick_at S _ [-1, l[j].last + 1] 2 _ _ _ _ s5 (by omega) rfl (by omega) (by omega) (by simp) (by simp)).mono ?_
              rintro e w6 ⟨s, hs, rfl, k6, s6⟩
              have hs' : -100000 ≤ s ∧ s ≤ 100001 := by
                simp only [List.mem_cons, List.mem_nil_iff, or_false] at hs
                omega
              have HL6 := Lib.hid (HL5.out.draw k6 s6 hS1)
              have own6 := HL6.out.1
              rw [HN.out] at own6
              have hc6 : w6.cell? ⟨g, j * 5 + 2, none⟩ = some (.int .i64 l[j].first) := by
                rw [own6.cellAt _ (by omega), fm_get 5 Bd.cells l (fun x _ => x.len) j 2 hjl (by omega)]
                rfl
              have hf6 : w6.frozen? ⟨g, j * 5 + 2, none⟩ = false := own6.frozenAt _
              have HS := Lib.hid (HL6.out.set (j := j) (i := 2) (u := .int .i64 s) (x' := ⟨l[j].key, l[j].cents, s, l[j].last, l[j].pace⟩) hS1 hw1 HN.out (fun x _ => x.len) hjl (by omega) rfl)
              clear own6 HL6 HL5 k6 s6 s5 hs
              go_wp2_with fail
              go_ret
              have := HS.out.gen (K' := K + 30) (P := fun l => l.length ≤ 3 ∧ ∀ x ∈ l, x.ok) hS1 (by omega) (fun x _ => x.len) ⟨by simp; have := HN.out; omega, fun x hx => by
                rcases List.mem_or_eq_of_mem_set hx with hx | rfl
                · exact HOK.out x hx
                · obtain ⟨o1, o2, o3, o4, o5, o6, o7⟩ := hxok.out
                  exact ⟨o1, o2, o3, by simp only; omega, by simp only; omega, o6, o7⟩⟩
              exact this
            · go_wp2_with fail
              with_reducible refine (pick_at S _ [3000, 3001] 2 _ _ _ _ s5 (by omega) rfl (by omega) (by omega) (by simp) (by simp)).mono ?_
              rintro e w6 ⟨s, hs, rfl, k6, s6⟩
              have hs' : 3000 ≤ s ∧ s ≤ 3001 := by
                simp only [List.mem_cons, List.mem_nil_iff, or_false] at hs
                omega
              have HL6 := Lib.hid (HL5.out.draw k6 s6 hS1)
              have own6 := HL6.out.1
              rw [HN.out] at own6
              have hc6 : w6.cell? ⟨g, j * 5 + 3, none⟩ = some (.int .i64 l[j].last) := by
                rw [own6.cellAt _ (by omega), fm_get 5 Bd.cells l (fun x _ => x.len) j 3 hjl (by omega)]
                rfl
              have hf6 : w6.frozen? ⟨g, j * 5 + 3, none⟩ = false := own6.frozenAt _
              have HS := Lib.hid (HL6.out.set (j := j) (i := 3) (u := .int .i64 s) (x' := ⟨l[j].key, l[j].cents, l[j].first, s, l[j].pace⟩) hS1 hw1 HN.out (fun x _ => x.len) hjl (by omega) rfl)
              clear own6 HL6 HL5 k6 s6 s5 hs
              go_wp2_with fail
              go_ret
              have := HS.out.gen (K' := K + 30) (P := fun l => l.length ≤ 3 ∧ ∀ x ∈ l, x.ok) hS1 (by omega) (fun x _ => x.len) ⟨by simp; have := HN.out; omega, fun x hx => by
                rcases List.mem_or_eq_of_mem_set hx with hx | rfl
                · exact HOK.out x hx
                · obtain ⟨o1, o2, o3, o4, o5, o6, o7⟩ := hxok.out
                  exact ⟨o1, o2, o3, o4, o5, by simp only; omega, by simp only; omega⟩⟩
              exact this
end Go.Proofs.YtdnikegakcdcnaaDoor
