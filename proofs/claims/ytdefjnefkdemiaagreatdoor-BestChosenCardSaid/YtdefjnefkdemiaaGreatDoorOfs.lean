/- The maker of offers: Stream.Offers (printed by gen_ofs.py). -/
import Derived.Test.YtdefjnefkdemiaaGreatDoorOfMake
import Derived.Test.YtdefjnefkdemiaaGreatDoorM1
set_option linter.unusedVariables false
namespace Go.Proofs.YtdefjnefkdemiaaGreatDoor
open Go.RowKit

theorem infoOf : (Tryz.prog.info? 37).map (fun i => (i.zero, i.size, i.bytes)) = some (some (.agg #[.string ⟨#[]⟩, .int .i64 0, .int .i64 0, .int .i64 0, .slice none 0 0, .int .i64 0, .int .i64 0, .string ⟨#[]⟩, .bool false, .int .i64 0, .int .i64 0, .int .i64 0]), 12, 128) := by kernel_rfl
abbrev LO (w : World) (wr : World) (S : SC) (K : Nat) (v : Value) (l : List Of) : Prop := LT w w.heap.size wr S K 37 12 Of.cells Of.tv Of.tags v l
/-- what the maker of offers leaves: a list of its own -/
def GenO (S : SC) (K : Nat) (w : World) (m : Nat) (e : Ending) (w' : World) : Prop :=
  ∃ a c l, (l.length ≤ m ∧ ∀ x ∈ l, x.ok) ∧ e = .returned (.slice a l.length c) ∧ l.length ≤ c ∧ c ≤ maxLen ∧ w'.ownsRow w.heap.size 37 12 (.slice a l.length c) l.length (l.flatMap Of.cells) ∧ Kp S (fun w => RAt w a 12 Of.cells l) w' ∧ Kp S (fun w => TagsAt Of.tv Of.tags w l) w' ∧ w.grownBy w' (some S.g) ∧ Strm w' S K ∧ ∀ x ∈ l, TgF w' S x.tv x.tags
theorem LO.gen {w wr : World} {S : SC} {K K' m : Nat} {v : Value} {l : List Of} (h : LO w wr S K v l) (hS : S.g < w.heap.size) (hK : K ≤ K') (hl : l.length ≤ m) (hok : ∀ x ∈ l, x.ok) : GenO S K' w m (.returned v) wr := by
  obtain ⟨⟨own, s, g, hb⟩, h2⟩ := h
  obtain ⟨a, c, rfl, hI, hc1, hc2⟩ := RAt.of_own own (fun x _ => x.len)
  refine ⟨a, c, l, ⟨hl, hok⟩, rfl, hc1, hc2, own, Kp.recs hI (fun p off ha => ?_), Kp.tags h2, g, strm_mono s hK, h2⟩
  subst ha
  have := (own.lt p (by simp [Value.ownBlock])).1
  omega
theorem ok_set {l : List Of} {j : Nat} {x : Of} (h : ∀ x ∈ l, x.ok) (hx : x.ok) : ∀ y ∈ l.set j x, y.ok := fun y hy => by
  rcases List.mem_or_eq_of_mem_set hy with hy | rfl
  · exact h y hy
  · exact hx

set_option maxRecDepth 100000 in
set_option maxHeartbeats 16000000 in
theorem offers_own (S : SC) (K : Nat) (m : Nat) (w : World) (s0 : Strm w S K) (hK : K ≤ 5000) (hm1 : 1 ≤ m) (hm2 : m ≤ 20) :
    Calls Tryz.prog 5 #[S.p, .int .i64 m] w (GenO S (K + 20 * m + 10) w m) := by
  obtain ⟨i0, hi, hz0, hz1, hz2⟩ := info_parts infoOf
  have hS0 := strm_lt s0
  go_enter Tryz.func5, Tryz.ntmps5
  go_wp2_with fail
  with_reducible refine (next_any S _ _ _ s0 (by omega) (by omega)).mono ?_
  rintro e w1 ⟨m', ⟨hm0, hmx, -⟩, rfl, k1, s1⟩
  have hmx2 := hmx (by omega)
  obtain ⟨n, rfl⟩ := Int.eq_ofNat_of_zero_le hm0
  have HN := Lib.hid (show n ≤ m by omega)
  have hn20 : n ≤ 20 := by omega
  have HL1 : Hid (LO w w1 S (K + 1) (.slice none 0 0) []) := Lib.hid (LT.nil ⟨World.ownsRow_nil _ _ _ _, s1, k1, k1.size⟩)
  clear k1 s1 hm0 hmx hmx2 s0
  go_wp2_with fail
  go_loopw [5, 6, 12] (fun v _ i wr => ∃ (k : Nat) (l : List Of), k ≤ n ∧ i = .int .i64 k ∧ l.length = k ∧ Hid (∀ x ∈ l, x.ok) ∧ LO w wr S (K + 1 + 20 * k) v l) (fun _ _ i _ => n - (intOf i).toNat)
  case atStart => exact ⟨0, [], Nat.zero_le _, rfl, rfl, Lib.hid (by simp), HL1.out⟩
  case round =>
    obtain ⟨k, l, hk, rfl, hl, HOK, hL⟩ := hrel
    have HL := Lib.hid hL
    have hll := Lib.hid hl
    have s2 := hL.strm
    clear hL HL1 hl
    by_cases hlt : k < n
    · obtain ⟨R, hR⟩ : ∃ R, Utf8.encode (97 + (k : Int)) = R := ⟨_, rfl⟩
      have hRs : R.size ≤ 4 := by rw [← hR]; exact enc_size _ (by omega) (by omega)
      go_wp2_with fail
      clear hR
      have HID := Lib.hid (size_pre 111 R hRs)
      generalize (⟨#[111]⟩ : ByteArray) ++ R = id at *
      have hids := HID.out
      with_reducible refine (offer_any S _ id _ s2 (by omega) (by omega)).mono ?_
      rintro e w3 ⟨x, hxk, hxok, rfl, htg, k3, s3⟩
      have HL3 := Lib.hid (HL.out.draw k3 s3 hS0)
      have HX := Lib.hid hxok
      have HT := Lib.hid htg
      clear HL k3 s2 hxok htg hxk HID hids hRs
      obtain ⟨k0, kd, ia, ib, tv, tc, tags, le, mo, gr, al, od, fr, t2⟩ := x
      rw [show (Of.cells ⟨k0, kd, ia, ib, tv, tc, tags, le, mo, gr, al, od, fr, t2⟩).toArray = #[.string k0, .int .i64 kd, .int .i64 ia, .int .i64 ib, .slice tv tags.length tc, .int .i64 le, .int .i64 mo, .string gr, .bool al, .int .i64 od, .int .i64 fr, .int .i64 t2] from rfl]
      have own3 := HL3.out.1.1
      have hw3 := HL3.out.size
      rw [hll.out] at own3
      go_wp2_with (at_builtin; refine wpList_append_own _ rfl _ _ 26 rfl w.heap.size 37 i0 _ 12 128 Tryz.underlying26 hi hz0 hz1 hz2 rfl (by decide) _ _ _ rfl (own3.alloc _) ⟨w3.heap.size, 0, none⟩ 1 1 [.string k0, .int .i64 kd, .int .i64 ia, .int .i64 ib, .slice tv tags.length tc, .int .i64 le, .int .i64 mo, .string gr, .bool al, .int .i64 od, .int .i64 fr, .int .i64 t2] rfl rfl ?c1 ?c2 ?c3 ?c4 ?c5 ?_)
      case c1 => exact cells_new w3 #[.string k0, .int .i64 kd, .int .i64 ia, .int .i64 ib, .slice tv tags.length tc, .int .i64 le, .int .i64 mo, .string gr, .bool al, .int .i64 od, .int .i64 fr, .int .i64 t2] 37
      case c2 => simp [Value.oneCell']
      case c3 => unfold maxLen; omega
      case c4 => omega
      case c5 => simp; omega
      intro v2 w8 own8 hgrow8 hne8
      rw [← hll.out] at own8
      have HL8 := Lib.hid (HL3.out.snoc (x := ⟨k0, kd, ia, ib, tv, tc, tags, le, mo, gr, al, od, fr, t2⟩) HT.out of_ty hS0 (Nat.le_refl _) own8 hgrow8)
      clear hne8 own8 hgrow8 HL3 own3
      go_wp2_with fail
      go_roundw
      case rel => exact ⟨k + 1, l ++ [⟨k0, kd, ia, ib, tv, tc, tags, le, mo, gr, al, od, fr, t2⟩], by omega, by go_num, by rw [List.length_append, hll.out]; rfl, Lib.hid (fun x hx => (by
          rcases List.mem_append.1 hx with hx | hx
          · exact HOK.out x hx
          · obtain rfl := List.mem_singleton.1 hx
            exact HX.out)), HL8.out.mono (by omega)⟩
      case measure => simp [intOf]; omega
    · obtain rfl : k = n := by omega
      clear hlt hk
      go_wp2_with fail
      with_reducible refine (flip_any S _ _ _ s2 (by omega) (by omega)).mono ?_
      rintro e w3 ⟨b, rfl, k3, s3⟩
      have HL3 := Lib.hid (HL.out.draw k3 s3 hS0)
      have hlm := Lib.hid (show l.length ≤ m by have := HN.out; have := hll.out; omega)
      have HG := Lib.hid (LO.gen (K' := K + 20 * m + 10) (m := m) HL3.out hS0 (by have := HN.out; omega) hlm.out HOK.out)
      clear HL k3 s2
      cases b with
      | false =>
        go_wp2_with fail
        go_ret
        exact HG.out
      | true =>
        rcases HL3.out.1.1.2 with ⟨rfl, h0⟩ | ⟨g, cap, cur, rfl, hbg, hg, hnc, hcm, hcs, htake⟩
        · go_wp2_with fail
          go_ret
          exact HG.out
        · clear hg hcs htake
          rw [hll.out] at hnc HG HL3 ⊢
          by_cases hk0 : k = 0
          · subst hk0
            go_wp2_with fail
            go_ret
            exact HG.out
          · have hlp : 0 < k := by omega
            clear HG
            go_wp2_with fail
            with_reducible refine (next_any S _ _ _ s3 (by omega) (by omega)).mono ?_
            rintro e w4 ⟨r, ⟨hr0, hr1, -⟩, rfl, k4, s4⟩
            have hr2 := hr1 (by omega)
            obtain ⟨j, rfl⟩ := Int.eq_ofNat_of_zero_le hr0
            have hj : j < k := by omega
            have HL4 := Lib.hid (HL3.out.draw k4 s4 hS0)
            clear hr0 hr1 hr2 HL3 k4 s3
            go_wp2_with fail
            with_reducible refine (next_any S _ _ _ s4 (by omega) (by omega)).mono ?_
            rintro e w5 ⟨r, ⟨hr0, hr1, -⟩, rfl, k5, s5⟩
            have hr2 := hr1 (by omega)
            have HL5 := Lib.hid (HL4.out.draw k5 s5 hS0)
            clear hr1 HL4 k5 s4
            have hjl : j < l.length := by have := hll.out; omega
            have HX := Lib.hid (HOK.out l[j] (List.getElem_mem hjl))
            have HTG := Lib.hid (fun (w' : World) (h : ∀ x ∈ l, TgF w' S x.tv x.tags) => h l[j] (List.getElem_mem hjl))
            have hfl := Lib.hid (fun (x : Of) (_ : x ∈ l) => x.len)
            rcases (show r = 0 ∨ r = 1 ∨ r = 2 ∨ r = 3 ∨ r = 4 ∨ r = 5 ∨ r = 6 ∨ r = 7 ∨ r = 8 by omega) with rfl | rfl | rfl | rfl | rfl | rfl | rfl | rfl | rfl
            · go_wp2_with fail
              with_reducible refine (one_at S _ [⟨#[]⟩, ⟨#[111, 97]⟩, ⟨#[79]⟩] 3 _ _ _ _ s5 (by omega) rfl (by omega) (by omega) (by simp) (by simp)).mono ?_
              rintro e w6 ⟨z, hm, rfl, k6, s6⟩
              have hz : z.size ≤ 100 := by
                simp only [List.mem_cons, List.mem_nil_iff, or_false] at hm
                rcases hm with rfl | rfl | rfl <;> decide
              have HL6 := Lib.hid (HL5.out.draw k6 s6 hS0)
              clear HL5 k6 s5 hm
              have c0 := HL6.out.cell (j := j) (i := 0) hll.out hfl.out hjl (by omega) (u := .string l[j].key) rfl
              have f0 := HL6.out.free hll.out (j * 12 + 0)
              simp only [Nat.add_zero] at c0 f0
              have HS := Lib.hid (HL6.out.put (j := j) (i := 0) (u := .string z) (x' := { l[j] with key := z }) of_ty hS0 (Nat.le_refl _) hll.out hfl.out hjl (by omega) rfl (HTG.out _ HL6.out.2))
              simp only [Nat.add_zero] at HS
              have HG := Lib.hid (LO.gen (K' := K + 20 * m + 10) (m := m) HS.out hS0 (by have := HN.out; omega) (by rw [List.length_set]; exact hlm.out) (ok_set HOK.out (HX.out.ok_key z hz)))
              clear HL6 HS
              go_wp2_with fail
              go_ret
              exact HG.out
            · go_wp2_with fail
              with_reducible refine (range_any S _ _ _ _ s5 (by omega) (by omega) (by omega) (by omega)).mono ?_
              rintro e w6 ⟨z, hz, rfl, k6, s6⟩
              have HL6 := Lib.hid (HL5.out.draw k6 s6 hS0)
              clear HL5 k6 s5
              have c1 := HL6.out.cell (j := j) (i := 1) hll.out hfl.out hjl (by omega) (u := .int .i64 l[j].kind) rfl
              have f1 := HL6.out.free hll.out (j * 12 + 1)
              have HS := Lib.hid (HL6.out.put (j := j) (i := 1) (u := .int .i64 z) (x' := { l[j] with kind := z }) of_ty hS0 (Nat.le_refl _) hll.out hfl.out hjl (by omega) rfl (HTG.out _ HL6.out.2))
              have HG := Lib.hid (LO.gen (K' := K + 20 * m + 10) (m := m) HS.out hS0 (by have := HN.out; omega) (by rw [List.length_set]; exact hlm.out) (ok_set HOK.out (HX.out.ok_kind z (by omega) (by omega))))
              clear HL6 HS
              go_wp2_with fail
              go_ret
              exact HG.out
            · go_wp2_with fail
              with_reducible refine (pick_at S _ [0, 101, 21, 1000000000001, -1] 5 _ _ _ _ s5 (by omega) rfl (by omega) (by omega) (by simp) (by simp)).mono ?_
              rintro e w6 ⟨z, hm, rfl, k6, s6⟩
              have hz : -1 ≤ z ∧ z ≤ 1000000000001 := by
                simp only [List.mem_cons, List.mem_nil_iff, or_false] at hm
                omega
              have HL6 := Lib.hid (HL5.out.draw k6 s6 hS0)
              clear HL5 k6 s5 hm
              have c2 := HL6.out.cell (j := j) (i := 2) hll.out hfl.out hjl (by omega) (u := .int .i64 l[j].a) rfl
              have f2 := HL6.out.free hll.out (j * 12 + 2)
              have HS := Lib.hid (HL6.out.put (j := j) (i := 2) (u := .int .i64 z) (x' := { l[j] with a := z }) of_ty hS0 (Nat.le_refl _) hll.out hfl.out hjl (by omega) rfl (HTG.out _ HL6.out.2))
              have HG := Lib.hid (LO.gen (K' := K + 20 * m + 10) (m := m) HS.out hS0 (by have := HN.out; omega) (by rw [List.length_set]; exact hlm.out) (ok_set HOK.out (HX.out.ok_a z (by omega) (by omega))))
              clear HL6 HS
              go_wp2_with fail
              go_ret
              exact HG.out
            · go_wp2_with fail
              with_reducible refine (pick_at S _ [0, 1, 21, -1] 4 _ _ _ _ s5 (by omega) rfl (by omega) (by omega) (by simp) (by simp)).mono ?_
              rintro e w6 ⟨z, hm, rfl, k6, s6⟩
              have hz : -1 ≤ z ∧ z ≤ 21 := by
                simp only [List.mem_cons, List.mem_nil_iff, or_false] at hm
                omega
              have HL6 := Lib.hid (HL5.out.draw k6 s6 hS0)
              clear HL5 k6 s5 hm
              have c3 := HL6.out.cell (j := j) (i := 3) hll.out hfl.out hjl (by omega) (u := .int .i64 l[j].b) rfl
              have f3 := HL6.out.free hll.out (j * 12 + 3)
              have HS := Lib.hid (HL6.out.put (j := j) (i := 3) (u := .int .i64 z) (x' := { l[j] with b := z }) of_ty hS0 (Nat.le_refl _) hll.out hfl.out hjl (by omega) rfl (HTG.out _ HL6.out.2))
              have HG := Lib.hid (LO.gen (K' := K + 20 * m + 10) (m := m) HS.out hS0 (by have := HN.out; omega) (by rw [List.length_set]; exact hlm.out) (ok_set HOK.out (HX.out.ok_b z (by omega) (by omega))))
              clear HL6 HS
              go_wp2_with fail
              go_ret
              exact HG.out
            · go_wp2_with fail
              with_reducible refine (pick_at S _ [-1, 0, 1000000000001] 3 _ _ _ _ s5 (by omega) rfl (by omega) (by omega) (by simp) (by simp)).mono ?_
              rintro e w6 ⟨z, hm, rfl, k6, s6⟩
              have hz : -1 ≤ z ∧ z ≤ 1000000000001 := by
                simp only [List.mem_cons, List.mem_nil_iff, or_false] at hm
                omega
              have HL6 := Lib.hid (HL5.out.draw k6 s6 hS0)
              clear HL5 k6 s5 hm
              go_wp2_with fail
              with_reducible refine (pick_at S _ [-1, 0] 2 _ _ _ _ s6 (by omega) rfl (by omega) (by omega) (by simp) (by simp)).mono ?_
              rintro e w7 ⟨y, hm, rfl, k6, s7⟩
              have hy : -1 ≤ y ∧ y ≤ 0 := by
                simp only [List.mem_cons, List.mem_nil_iff, or_false] at hm
                omega
              have HL7 := Lib.hid (HL6.out.draw k6 s7 hS0)
              clear HL6 k6 s6 hm
              have c5 := HL7.out.cell (j := j) (i := 5) hll.out hfl.out hjl (by omega) (u := .int .i64 l[j].least) rfl
              have f5 := HL7.out.free hll.out (j * 12 + 5)
              have c6 := HL7.out.cell (j := j) (i := 6) hll.out hfl.out hjl (by omega) (u := .int .i64 l[j].most) rfl
              have f6 := HL7.out.free hll.out (j * 12 + 6)
              have HS := Lib.hid (HL7.out.put (j := j) (i := 5) (u := .int .i64 z) (x' := { l[j] with least := z }) of_ty hS0 (Nat.le_refl _) hll.out hfl.out hjl (by omega) rfl (HTG.out _ HL7.out.2))
              have hj2 : j < (l.set j { l[j] with least := z }).length := by rw [List.length_set]; exact hjl
              have HS2 := Lib.hid (HS.out.put (j := j) (i := 6) (u := .int .i64 y) (x' := { l[j] with least := z, most := y }) of_ty hS0 (Nat.le_refl _) (by rw [List.length_set]; exact hll.out) (fun x _ => x.len) hj2 (by omega) (by rw [List.getElem_set_self]; rfl) (by have h := HS.out.2 _ (List.mem_iff_getElem.2 ⟨j, hj2, rfl⟩); rw [List.getElem_set_self] at h; exact h))
              have HG := Lib.hid (LO.gen (K' := K + 20 * m + 10) (m := m) HS2.out hS0 (by have := HN.out; omega) (by rw [List.length_set, List.length_set]; exact hlm.out) (ok_set (ok_set HOK.out (HX.out.ok_least z (by omega) (by omega))) ((HX.out.ok_least z (by omega) (by omega)).ok_most y (by omega) (by omega))))
              clear HL7 HS HS2
              go_wp2_with fail
              go_ret
              exact HG.out
            · go_wp2_with fail
              with_reducible refine (pick_at S _ [-1, 4321440, 5] 3 _ _ _ _ s5 (by omega) rfl (by omega) (by omega) (by simp) (by simp)).mono ?_
              rintro e w6 ⟨z, hm, rfl, k6, s6⟩
              have hz : -1 ≤ z ∧ z ≤ 4321440 := by
                simp only [List.mem_cons, List.mem_nil_iff, or_false] at hm
                omega
              have HL6 := Lib.hid (HL5.out.draw k6 s6 hS0)
              clear HL5 k6 s5 hm
              go_wp2_with fail
              with_reducible refine (pick_at S _ [5, 6, 4321441] 3 _ _ _ _ s6 (by omega) rfl (by omega) (by omega) (by simp) (by simp)).mono ?_
              rintro e w7 ⟨y, hm, rfl, k6, s7⟩
              have hy : 5 ≤ y ∧ y ≤ 4321441 := by
                simp only [List.mem_cons, List.mem_nil_iff, or_false] at hm
                omega
              have HL7 := Lib.hid (HL6.out.draw k6 s7 hS0)
              clear HL6 k6 s6 hm
              have c10 := HL7.out.cell (j := j) (i := 10) hll.out hfl.out hjl (by omega) (u := .int .i64 l[j].from_) rfl
              have f10 := HL7.out.free hll.out (j * 12 + 10)
              have c11 := HL7.out.cell (j := j) (i := 11) hll.out hfl.out hjl (by omega) (u := .int .i64 l[j].to_) rfl
              have f11 := HL7.out.free hll.out (j * 12 + 11)
              have HS := Lib.hid (HL7.out.put (j := j) (i := 10) (u := .int .i64 z) (x' := { l[j] with from_ := z }) of_ty hS0 (Nat.le_refl _) hll.out hfl.out hjl (by omega) rfl (HTG.out _ HL7.out.2))
              have hj2 : j < (l.set j { l[j] with from_ := z }).length := by rw [List.length_set]; exact hjl
              have HS2 := Lib.hid (HS.out.put (j := j) (i := 11) (u := .int .i64 y) (x' := { l[j] with from_ := z, to_ := y }) of_ty hS0 (Nat.le_refl _) (by rw [List.length_set]; exact hll.out) (fun x _ => x.len) hj2 (by omega) (by rw [List.getElem_set_self]; rfl) (by have h := HS.out.2 _ (List.mem_iff_getElem.2 ⟨j, hj2, rfl⟩); rw [List.getElem_set_self] at h; exact h))
              have HG := Lib.hid (LO.gen (K' := K + 20 * m + 10) (m := m) HS2.out hS0 (by have := HN.out; omega) (by rw [List.length_set, List.length_set]; exact hlm.out) (ok_set (ok_set HOK.out (HX.out.ok_from_ z (by omega) (by omega))) ((HX.out.ok_from_ z (by omega) (by omega)).ok_to_ y (by omega) (by omega))))
              clear HL7 HS HS2
              go_wp2_with fail
              go_ret
              exact HG.out
            · go_wp2_with fail
              with_reducible refine (one_at S _ [⟨#[71]⟩, ⟨#[103, 49]⟩] 2 _ _ _ _ s5 (by omega) rfl (by omega) (by omega) (by simp) (by simp)).mono ?_
              rintro e w6 ⟨z, hm, rfl, k6, s6⟩
              have hz : z.size ≤ 100 := by
                simp only [List.mem_cons, List.mem_nil_iff, or_false] at hm
                rcases hm with rfl | rfl <;> decide
              have HL6 := Lib.hid (HL5.out.draw k6 s6 hS0)
              clear HL5 k6 s5 hm
              have c7 := HL6.out.cell (j := j) (i := 7) hll.out hfl.out hjl (by omega) (u := .string l[j].group) rfl
              have f7 := HL6.out.free hll.out (j * 12 + 7)
              have HS := Lib.hid (HL6.out.put (j := j) (i := 7) (u := .string z) (x' := { l[j] with group := z }) of_ty hS0 (Nat.le_refl _) hll.out hfl.out hjl (by omega) rfl (HTG.out _ HL6.out.2))
              have HG := Lib.hid (LO.gen (K' := K + 20 * m + 10) (m := m) HS.out hS0 (by have := HN.out; omega) (by rw [List.length_set]; exact hlm.out) (ok_set HOK.out (HX.out.ok_group z hz)))
              clear HL6 HS
              go_wp2_with fail
              go_ret
              exact HG.out
            · go_wp2_with fail
              generalize hW : (((w5.alloc (.cells #[.string ⟨#[72, 97, 116]⟩] 9)).alloc (.cells #[.string ⟨#[104, 97, 116]⟩, .string ⟨#[99, 97, 112]⟩] 9)).alloc (.cells #[.string ⟨#[97]⟩, .string ⟨#[98]⟩, .string ⟨#[99]⟩, .string ⟨#[100]⟩, .string ⟨#[101]⟩, .string ⟨#[102]⟩, .string ⟨#[103]⟩, .string ⟨#[104]⟩, .string ⟨#[105]⟩, .string ⟨#[106]⟩, .string ⟨#[107]⟩] 9)).alloc (.cells #[.slice (some ⟨w5.heap.size, 0, none⟩) 1 1, .slice (some ⟨w5.heap.size + 1, 0, none⟩) 2 2, .slice (some ⟨w5.heap.size + 2, 0, none⟩) 11 11] 35) = w9
              have hgs := strm_lt HL5.out.strm
              have HT : Hid (TgF w9 S (some ⟨w5.heap.size, 0, none⟩) [⟨#[72, 97, 116]⟩] ∧ TgF w9 S (some ⟨w5.heap.size + 1, 0, none⟩) [⟨#[104, 97, 116]⟩, ⟨#[99, 97, 112]⟩] ∧ TgF w9 S (some ⟨w5.heap.size + 2, 0, none⟩) [⟨#[97]⟩, ⟨#[98]⟩, ⟨#[99]⟩, ⟨#[100]⟩, ⟨#[101]⟩, ⟨#[102]⟩, ⟨#[103]⟩, ⟨#[104]⟩, ⟨#[105]⟩, ⟨#[106]⟩, ⟨#[107]⟩] ∧ OB w9 (w5.heap.size + 3) [.slice (some ⟨w5.heap.size, 0, none⟩) 1 1, .slice (some ⟨w5.heap.size + 1, 0, none⟩) 2 2, .slice (some ⟨w5.heap.size + 2, 0, none⟩) 11 11] 35) := by
                rw [← hW]
                exact Lib.hid (tags3 hgs [⟨#[72, 97, 116]⟩] [⟨#[104, 97, 116]⟩, ⟨#[99, 97, 112]⟩] [⟨#[97]⟩, ⟨#[98]⟩, ⟨#[99]⟩, ⟨#[100]⟩, ⟨#[101]⟩, ⟨#[102]⟩, ⟨#[103]⟩, ⟨#[104]⟩, ⟨#[105]⟩, ⟨#[106]⟩, ⟨#[107]⟩] [.slice (some ⟨w5.heap.size, 0, none⟩) 1 1, .slice (some ⟨w5.heap.size + 1, 0, none⟩) 2 2, .slice (some ⟨w5.heap.size + 2, 0, none⟩) 11 11] 35)
              have HL9 : Hid (LO w w9 S (K + 1 + 20 * k + 1 + 1 + 1) (.slice (some ⟨g, 0, none⟩) k cap) l) := by
                rw [← hW]
                exact Lib.hid ((((HL5.out.alloc _ hS0).alloc _ hS0).alloc _ hS0).alloc _ hS0)
              clear hW HL5
              have s9 := HL9.out.strm
              with_reducible refine (next_any S _ _ _ s9 (by omega) (by omega)).mono ?_
              rintro e w10 ⟨r, ⟨hr0, hr1, -⟩, rfl, k10, s10⟩
              have hr2 := hr1 (by omega)
              have HL10 := Lib.hid (HL9.out.draw k10 s10 hS0)
              have HTa := Lib.hid (HT.out.1.draw k10)
              have HTb := Lib.hid (HT.out.2.1.draw k10)
              have HTc := Lib.hid (HT.out.2.2.1.draw k10)
              have HTd := Lib.hid (HT.out.2.2.2.grown k10 (by simp; omega))
              clear HT HL9 k10 s9 hr1
              have c4 := HL10.out.cell (j := j) (i := 4) hll.out hfl.out hjl (by omega) (u := .slice l[j].tv l[j].tags.length l[j].tc) rfl
              have f4 := HL10.out.free hll.out (j * 12 + 4)
              have d0 := HTd.out.cell 0 _ rfl
              have d1 := HTd.out.cell 1 _ rfl
              have d2 := HTd.out.cell 2 _ rfl
              have dl := HTd.out.lt
              rcases (show r = 0 ∨ r = 1 ∨ r = 2 by omega) with rfl | rfl | rfl
              · have HS := Lib.hid (HL10.out.put (j := j) (i := 4) (u := .slice (some ⟨w5.heap.size, 0, none⟩) 1 1) (x' := { l[j] with tv := some ⟨w5.heap.size, 0, none⟩, tc := 1, tags := [⟨#[72, 97, 116]⟩] }) of_ty hS0 (Nat.le_refl _) hll.out hfl.out hjl (by omega) rfl HTa.out)
                have HG := Lib.hid (LO.gen (K' := K + 20 * m + 10) (m := m) HS.out hS0 (by have := HN.out; omega) (by rw [List.length_set]; exact hlm.out) (ok_set HOK.out (HX.out.ok_tags _ _ _ (by decide) (by decide))))
                clear HL10 HS
                go_wp2_with fail
                go_ret
                exact HG.out
              · have HS := Lib.hid (HL10.out.put (j := j) (i := 4) (u := .slice (some ⟨w5.heap.size + 1, 0, none⟩) 2 2) (x' := { l[j] with tv := some ⟨w5.heap.size + 1, 0, none⟩, tc := 2, tags := [⟨#[104, 97, 116]⟩, ⟨#[99, 97, 112]⟩] }) of_ty hS0 (Nat.le_refl _) hll.out hfl.out hjl (by omega) rfl HTb.out)
                have HG := Lib.hid (LO.gen (K' := K + 20 * m + 10) (m := m) HS.out hS0 (by have := HN.out; omega) (by rw [List.length_set]; exact hlm.out) (ok_set HOK.out (HX.out.ok_tags _ _ _ (by decide) (by decide))))
                clear HL10 HS
                go_wp2_with fail
                go_ret
                exact HG.out
              · have HS := Lib.hid (HL10.out.put (j := j) (i := 4) (u := .slice (some ⟨w5.heap.size + 2, 0, none⟩) 11 11) (x' := { l[j] with tv := some ⟨w5.heap.size + 2, 0, none⟩, tc := 11, tags := [⟨#[97]⟩, ⟨#[98]⟩, ⟨#[99]⟩, ⟨#[100]⟩, ⟨#[101]⟩, ⟨#[102]⟩, ⟨#[103]⟩, ⟨#[104]⟩, ⟨#[105]⟩, ⟨#[106]⟩, ⟨#[107]⟩] }) of_ty hS0 (Nat.le_refl _) hll.out hfl.out hjl (by omega) rfl HTc.out)
                have HG := Lib.hid (LO.gen (K' := K + 20 * m + 10) (m := m) HS.out hS0 (by have := HN.out; omega) (by rw [List.length_set]; exact hlm.out) (ok_set HOK.out (HX.out.ok_tags _ _ _ (by decide) (by decide))))
                clear HL10 HS
                go_wp2_with fail
                go_ret
                exact HG.out
            · go_wp2_with fail
              with_reducible refine (pick_at S _ [-1, 1001] 2 _ _ _ _ s5 (by omega) rfl (by omega) (by omega) (by simp) (by simp)).mono ?_
              rintro e w6 ⟨z, hm, rfl, k6, s6⟩
              have hz : -1 ≤ z ∧ z ≤ 1001 := by
                simp only [List.mem_cons, List.mem_nil_iff, or_false] at hm
                omega
              have HL6 := Lib.hid (HL5.out.draw k6 s6 hS0)
              clear HL5 k6 s5 hm
              have c9 := HL6.out.cell (j := j) (i := 9) hll.out hfl.out hjl (by omega) (u := .int .i64 l[j].order) rfl
              have f9 := HL6.out.free hll.out (j * 12 + 9)
              have HS := Lib.hid (HL6.out.put (j := j) (i := 9) (u := .int .i64 z) (x' := { l[j] with order := z }) of_ty hS0 (Nat.le_refl _) hll.out hfl.out hjl (by omega) rfl (HTG.out _ HL6.out.2))
              have HG := Lib.hid (LO.gen (K' := K + 20 * m + 10) (m := m) HS.out hS0 (by have := HN.out; omega) (by rw [List.length_set]; exact hlm.out) (ok_set HOK.out (HX.out.ok_order z (by omega) (by omega))))
              clear HL6 HS
              go_wp2_with fail
              go_ret
              exact HG.out
theorem offers_make (S : SC) (K : Nat) (m : Nat) (w : World) (s0 : Strm w S K) (hK : K ≤ 5000) (hm1 : 1 ≤ m) (hm2 : m ≤ 20) :
    Calls Tryz.prog 5 #[S.p, .int .i64 m] w (GenT S (K + 20 * m + 10) w 12 Of.cells Of.tv Of.tags fun l => l.length ≤ m ∧ ∀ x ∈ l, x.ok) :=
  (offers_own S K m w s0 hK hm1 hm2).mono fun _ _ ⟨a, c, l, h1, h2, h3, h4, _, h6, h7, h8, h9, _⟩ => ⟨a, c, l, h1, h2, h3, h4, h6, h7, h8, h9⟩
end Go.Proofs.YtdefjnefkdemiaaGreatDoor
