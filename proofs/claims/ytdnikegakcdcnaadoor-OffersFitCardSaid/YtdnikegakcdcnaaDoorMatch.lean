/- An item matches an offer: offer.matches, handref1.matches (printed by gen_match.py). -/
import Derived.Test.YtdnikegakcdcnaaDoorOfSpec
import Derived.Test.YtdnikegakcdcnaaDoorLists
import Derived.Deep.DeepCutAuto
set_option linter.unusedVariables false
namespace Go.Proofs.YtdnikegakcdcnaaDoor
open Go.RowKit

theorem any_drop {α : Type} (l : List α) (f : α → Bool) (k : Nat) (h : k < l.length) : (l.drop k).any f = (f l[k] || (l.drop (k + 1)).any f) := by
  rw [List.drop_eq_getElem_cons h, List.any_cons]

theorem mtcX_any (yt : List ByteArray) (tv : Option Addr) (tc q : Nat) (s : ByteArray) (w : World) (hq : w.cell? ⟨q, 3, none⟩ = some (.slice tv yt.length tc)) (hn : yt.length ≤ 1000) (hT : StrsAt w tv yt) :
    Calls Tryd.prog 222 #[.string s, .pointer (some ⟨q, 0, none⟩)] w fun e w' => e = .returned (.bool (hasS yt s)) ∧ Below w.heap.size w w' := by
  have hql := World.block_lt_of_cell? w _ hq
  have C := Lib.hid (contains_strs tv yt yt.length tc s w rfl hn hT)
  generalize hasS yt s = b at *
  clear hT
  go_enter Tryd.func222, Tryd.ntmps222
  go_wp2_with fail
  with_reducible refine C.out.mono ?_
  rintro e w1 ⟨rfl, rfl⟩
  go_wp2_with fail
  go_ret
  exact ⟨rfl, Below.refl _ _⟩
set_option maxRecDepth 100000 in
set_option maxHeartbeats 4000000 in
theorem mtiX_any (a : Option Addr) (l : List ByteArray) (n c : Nat) (yt : List ByteArray) (tv : Option Addr) (tc q : Nat) (w : World) (hq : w.cell? ⟨q, 3, none⟩ = some (.slice tv yt.length tc)) (hn : l.length = n) (hn0 : n ≤ 1000) (hn1 : yt.length ≤ 1000) (hI : StrsAt w a l) (hT : StrsAt w tv yt) :
    Calls Tryd.prog 223 #[.slice a n c, .func (.func 222) #[] #[.pointer (some ⟨q, 0, none⟩)]] w (IdxOut w (l.any fun s => hasS yt s)) := by
  have hql := World.block_lt_of_cell? w _ hq
  have HN := Lib.hid hn
  have HI := Lib.hid hI
  have HC := Lib.hid (fun w' (hb : Below w.heap.size w w') s => mtcX_any yt tv tc q s w' ((hb.cell (p := ⟨q, 3, none⟩) hql).trans hq) hn1 (hT.below hb))
  obtain ⟨V, hV⟩ : ∃ V, (l.any fun s => hasS yt s) = V := ⟨_, rfl⟩
  rw [hV]
  have HV : Hid (V = (l.drop 0).any fun s => hasS yt s) := Lib.hid hV.symm
  clear hn hI hq hV hT
  go_enter Tryd.func223, Tryd.ntmps223
  go_wp2_with fail
  go_loopw [5, 8] (fun _ i wr => ∃ k : Nat, k ≤ n ∧ i = .int .i64 k ∧ Below w.heap.size w wr ∧ Hid (V = (l.drop k).any fun s => hasS yt s)) (fun _ i _ => n - (intOf i).toNat)
  case atStart => exact ⟨0, Nat.zero_le _, rfl, Below.refl _ _, HV⟩
  case round =>
    obtain ⟨k, hk, rfl, hB, hH⟩ := hrel
    by_cases hlt : k < n
    · have hkl : k < l.length := by have := HN.out; omega
      obtain ⟨p, off, rfl, hp, c0⟩ := (HI.out.below hB) k hkl
      have C := Lib.hid (HC.out wr hB l[k])
      have HS := Lib.hid (hH.out.trans (any_drop l (fun s => hasS yt s) k hkl))
      obtain ⟨b, hb⟩ : ∃ b, hasS yt l[k] = b := ⟨_, rfl⟩
      rw [hb] at C HS
      generalize l[k] = x at *
      have HB := Lib.hid hB
      clear hb hH
      cases b with
      | true =>
        obtain rfl : V = true := HS.out.trans (Bool.true_or _)
        go_wp2_with fail
        with_reducible refine C.out.mono ?_
        rintro e w1 ⟨rfl, b1⟩
        have HB1 := Lib.hid (HB.out.trans (b1.mono HB.out.size))
        go_wp2_with fail
        go_ret
        exact ⟨(k : Int), rfl, decide_eq_true (by omega), HB1.out⟩
      | false =>
        have HR := Lib.hid (HS.out.trans (Bool.false_or _))
        go_wp2_with fail
        with_reducible refine C.out.mono ?_
        rintro e w1 ⟨rfl, b1⟩
        have HB1 := Lib.hid (HB.out.trans (b1.mono HB.out.size))
        go_wp2_with fail
        go_roundw
        case rel => exact ⟨k + 1, by omega, by go_num, HB1.out, HR⟩
        case measure => simp [intOf]; omega
    · have HE := Lib.hid (show V = false by rw [hH.out, List.drop_eq_nil_of_le (by rw [HN.out]; omega)]; rfl)
      have HB := Lib.hid hB
      clear hH hB
      go_wp2_with fail
      go_ret
      exact ⟨-1, rfl, by rw [HE.out]; rfl, HB.out⟩

theorem mtcR_any (yt : List ByteArray) (tv : Option Addr) (tc q : Nat) (s : ByteArray) (w : World) (hq : w.cell? ⟨q, 3, none⟩ = some (.slice tv yt.length tc)) (hn : yt.length ≤ 1000) (hT : StrsAt w tv yt) :
    Calls Tryd.prog 203 #[.string s, .pointer (some ⟨q, 0, none⟩)] w fun e w' => e = .returned (.bool (hasS yt s)) ∧ Below w.heap.size w w' := by
  have hql := World.block_lt_of_cell? w _ hq
  have C := Lib.hid (contains_strs tv yt yt.length tc s w rfl hn hT)
  generalize hasS yt s = b at *
  clear hT
  go_enter Tryd.func203, Tryd.ntmps203
  go_wp2_with fail
  with_reducible refine C.out.mono ?_
  rintro e w1 ⟨rfl, rfl⟩
  go_wp2_with fail
  go_ret
  exact ⟨rfl, Below.refl _ _⟩
set_option maxRecDepth 100000 in
set_option maxHeartbeats 4000000 in
theorem mtiR_any (a : Option Addr) (l : List ByteArray) (n c : Nat) (yt : List ByteArray) (tv : Option Addr) (tc q : Nat) (w : World) (hq : w.cell? ⟨q, 3, none⟩ = some (.slice tv yt.length tc)) (hn : l.length = n) (hn0 : n ≤ 1000) (hn1 : yt.length ≤ 1000) (hI : StrsAt w a l) (hT : StrsAt w tv yt) :
    Calls Tryd.prog 223 #[.slice a n c, .func (.func 203) #[] #[.pointer (some ⟨q, 0, none⟩)]] w (IdxOut w (l.any fun s => hasS yt s)) := by
  have hql := World.block_lt_of_cell? w _ hq
  have HN := Lib.hid hn
  have HI := Lib.hid hI
  have HC := Lib.hid (fun w' (hb : Below w.heap.size w w') s => mtcR_any yt tv tc q s w' ((hb.cell (p := ⟨q, 3, none⟩) hql).trans hq) hn1 (hT.below hb))
  obtain ⟨V, hV⟩ : ∃ V, (l.any fun s => hasS yt s) = V := ⟨_, rfl⟩
  rw [hV]
  have HV : Hid (V = (l.drop 0).any fun s => hasS yt s) := Lib.hid hV.symm
  clear hn hI hq hV hT
  go_enter Tryd.func223, Tryd.ntmps223
  go_wp2_with fail
  go_loopw [5, 8] (fun _ i wr => ∃ k : Nat, k ≤ n ∧ i = .int .i64 k ∧ Below w.heap.size w wr ∧ Hid (V = (l.drop k).any fun s => hasS yt s)) (fun _ i _ => n - (intOf i).toNat)
  case atStart => exact ⟨0, Nat.zero_le _, rfl, Below.refl _ _, HV⟩
  case round =>
    obtain ⟨k, hk, rfl, hB, hH⟩ := hrel
    by_cases hlt : k < n
    · have hkl : k < l.length := by have := HN.out; omega
      obtain ⟨p, off, rfl, hp, c0⟩ := (HI.out.below hB) k hkl
      have C := Lib.hid (HC.out wr hB l[k])
      have HS := Lib.hid (hH.out.trans (any_drop l (fun s => hasS yt s) k hkl))
      obtain ⟨b, hb⟩ : ∃ b, hasS yt l[k] = b := ⟨_, rfl⟩
      rw [hb] at C HS
      generalize l[k] = x at *
      have HB := Lib.hid hB
      clear hb hH
      cases b with
      | true =>
        obtain rfl : V = true := HS.out.trans (Bool.true_or _)
        go_wp2_with fail
        with_reducible refine C.out.mono ?_
        rintro e w1 ⟨rfl, b1⟩
        have HB1 := Lib.hid (HB.out.trans (b1.mono HB.out.size))
        go_wp2_with fail
        go_ret
        exact ⟨(k : Int), rfl, decide_eq_true (by omega), HB1.out⟩
      | false =>
        have HR := Lib.hid (HS.out.trans (Bool.false_or _))
        go_wp2_with fail
        with_reducible refine C.out.mono ?_
        rintro e w1 ⟨rfl, b1⟩
        have HB1 := Lib.hid (HB.out.trans (b1.mono HB.out.size))
        go_wp2_with fail
        go_roundw
        case rel => exact ⟨k + 1, by omega, by go_num, HB1.out, HR⟩
        case measure => simp [intOf]; omega
    · have HE := Lib.hid (show V = false by rw [hH.out, List.drop_eq_nil_of_le (by rw [HN.out]; omega)]; rfl)
      have HB := Lib.hid hB
      clear hH hB
      go_wp2_with fail
      go_ret
      exact ⟨-1, rfl, by rw [HE.out]; rfl, HB.out⟩

set_option maxHeartbeats 4000000 in
theorem mthX_any (a : Option Addr) (l : List ByteArray) (n c : Nat) (yt : List ByteArray) (tv : Option Addr) (tc q : Nat) (w : World) (hq : w.cell? ⟨q, 3, none⟩ = some (.slice tv yt.length tc)) (hn : l.length = n) (hn0 : n ≤ 1000) (hn1 : yt.length ≤ 1000) (hI : StrsAt w a l) (hT : StrsAt w tv yt) :
    Calls Tryd.prog 202 #[.slice a n c, .func (.func 222) #[] #[.pointer (some ⟨q, 0, none⟩)]] w fun e w' => e = .returned (.bool (l.any fun s => hasS yt s)) ∧ Below w.heap.size w w' := by
  have C := Lib.hid (mtiX_any a l n c yt tv tc q w hq hn hn0 hn1 hI hT)
  clear hn hI hq hT
  generalize (l.any fun s => hasS yt s) = b at *
  go_enter Tryd.func202, Tryd.ntmps202
  go_wp2_with fail
  with_reducible refine C.out.mono ?_
  rintro e w1 ⟨r, rfl, hr, hb⟩
  have HR := Lib.hid hr
  clear hr
  go_wp2_with fail
  go_ret
  exact ⟨ret_bool HR.out, hb⟩
set_option maxRecDepth 100000 in
set_option maxHeartbeats 4000000 in
theorem matchesX_any (x : Of) (y : It) (w : World) (hx : x.tags.length ≤ 1000) (hy : y.tags.length ≤ 1000) (hTx : StrsAt w x.tv x.tags) (hTy : StrsAt w y.tv y.tags) :
    Calls Tryd.prog 201 #[.agg #[.string x.key, .int .i64 x.kind, .int .i64 x.a, .int .i64 x.b, .slice x.tv x.tags.length x.tc, .int .i64 x.least, .int .i64 x.most, .string x.group, .bool x.alone, .int .i64 x.order, .int .i64 x.from_, .int .i64 x.to_], .agg #[.string y.key, .int .i64 y.cents, .int .i64 y.many, .slice y.tv y.tags.length y.tc]] w fun e w' => e = .returned (.bool (mtB x y)) ∧ Below w.heap.size w w' := by
  have HM := Lib.hid (show mtB x y = (decide (x.tags.length = 0) || x.tags.any fun s => hasS y.tags s) from rfl)
  generalize mtB x y = b at *
  obtain ⟨k, kd, ia, ib, tv, tc, tags, le, mo, gr, al, od, fr, t2⟩ := x
  obtain ⟨yk, yc, ym, yv, ytc, yt⟩ := y
  simp only at hx hy hTx hTy HM ⊢
  have HB1 := Lib.hid ((Below.refl w.heap.size w).alloc (Nat.le_refl _) (.cells #[.string k, .int .i64 kd, .int .i64 ia, .int .i64 ib, .slice tv tags.length tc, .int .i64 le, .int .i64 mo, .string gr, .bool al, .int .i64 od, .int .i64 fr, .int .i64 t2] 109))
  have HB2 := Lib.hid (HB1.out.alloc HB1.out.size (.cells #[.string yk, .int .i64 yc, .int .i64 ym, .slice yv yt.length ytc] 178))
  have HX := Lib.hid ((XB.new w [.string k, .int .i64 kd, .int .i64 ia, .int .i64 ib, .slice tv tags.length tc, .int .i64 le, .int .i64 mo, .string gr, .bool al, .int .i64 od, .int .i64 fr, .int .i64 t2] 109).alloc (.cells #[.string yk, .int .i64 yc, .int .i64 ym, .slice yv yt.length ytc] 178))
  have HY := Lib.hid (XB.new (w.alloc (.cells #[.string k, .int .i64 kd, .int .i64 ia, .int .i64 ib, .slice tv tags.length tc, .int .i64 le, .int .i64 mo, .string gr, .bool al, .int .i64 od, .int .i64 fr, .int .i64 t2] 109)) [.string yk, .int .i64 yc, .int .i64 ym, .slice yv yt.length ytc] 178)
  simp only [List.toArray] at HX HY
  have hz : (w.alloc (.cells #[.string k, .int .i64 kd, .int .i64 ia, .int .i64 ib, .slice tv tags.length tc, .int .i64 le, .int .i64 mo, .string gr, .bool al, .int .i64 od, .int .i64 fr, .int .i64 t2] 109)).heap.size = w.heap.size + 1 := by simp
  rw [hz] at HY
  obtain ⟨n, hn⟩ : ∃ n, tags.length = n := ⟨_, rfl⟩
  have C := Lib.hid (mthX_any tv tags n tc yt yv ytc (w.heap.size + 1) ((w.alloc (.cells #[.string k, .int .i64 kd, .int .i64 ia, .int .i64 ib, .slice tv tags.length tc, .int .i64 le, .int .i64 mo, .string gr, .bool al, .int .i64 od, .int .i64 fr, .int .i64 t2] 109)).alloc (.cells #[.string yk, .int .i64 yc, .int .i64 ym, .slice yv yt.length ytc] 178)) HY.out.at4.2.2.2 hn (by omega) (by omega) (hTx.below HB2.out) (hTy.below HB2.out))
  rw [hn] at HM HX HB1 HB2 C ⊢
  generalize (tags.any fun s => hasS yt s) = ba at *
  clear hn hTx hTy hz HY
  go_enter Tryd.func201, Tryd.ntmps201
  go_upto_region 1 with (fail)
  generalize (w.alloc (.cells #[.string k, .int .i64 kd, .int .i64 ia, .int .i64 ib, .slice tv n tc, .int .i64 le, .int .i64 mo, .string gr, .bool al, .int .i64 od, .int .i64 fr, .int .i64 t2] 109)).alloc (.cells #[.string yk, .int .i64 yc, .int .i64 ym, .slice yv yt.length ytc] 178) = w1 at *
  have x4 := HX.out.at12.2.2.2.2.1
  have hq := HX.out.1
  by_cases h0 : n = 0
  · obtain rfl : b = true := HM.out.trans (by simp [h0])
    subst h0
    go_wp2_with fail
    go_ret
    exact ⟨rfl, HB2.out⟩
  · obtain rfl : b = ba := HM.out.trans (by simp [h0])
    have hd : ((n : Int) == 0) = false := by simp; omega
    have hd2 : (n == 0) = false := by simpa using h0
    go_wp2_with fail
    with_reducible refine C.out.mono ?_
    rintro e w2 ⟨rfl, b2⟩
    have HB3 := Lib.hid (HB2.out.trans (b2.mono HB2.out.size))
    go_wp2_with fail
    go_ret
    exact ⟨rfl, HB3.out⟩

set_option maxHeartbeats 4000000 in
theorem mthR_any (a : Option Addr) (l : List ByteArray) (n c : Nat) (yt : List ByteArray) (tv : Option Addr) (tc q : Nat) (w : World) (hq : w.cell? ⟨q, 3, none⟩ = some (.slice tv yt.length tc)) (hn : l.length = n) (hn0 : n ≤ 1000) (hn1 : yt.length ≤ 1000) (hI : StrsAt w a l) (hT : StrsAt w tv yt) :
    Calls Tryd.prog 202 #[.slice a n c, .func (.func 203) #[] #[.pointer (some ⟨q, 0, none⟩)]] w fun e w' => e = .returned (.bool (l.any fun s => hasS yt s)) ∧ Below w.heap.size w w' := by
  have C := Lib.hid (mtiR_any a l n c yt tv tc q w hq hn hn0 hn1 hI hT)
  clear hn hI hq hT
  generalize (l.any fun s => hasS yt s) = b at *
  go_enter Tryd.func202, Tryd.ntmps202
  go_wp2_with fail
  with_reducible refine C.out.mono ?_
  rintro e w1 ⟨r, rfl, hr, hb⟩
  have HR := Lib.hid hr
  clear hr
  go_wp2_with fail
  go_ret
  exact ⟨ret_bool HR.out, hb⟩
set_option maxRecDepth 100000 in
set_option maxHeartbeats 4000000 in
theorem matchesR_any (x : Of) (y : It) (w : World) (hx : x.tags.length ≤ 1000) (hy : y.tags.length ≤ 1000) (hTx : StrsAt w x.tv x.tags) (hTy : StrsAt w y.tv y.tags) :
    Calls Tryd.prog 154 #[.agg #[.string x.key, .int .i64 x.kind, .int .i64 x.a, .int .i64 x.b, .slice x.tv x.tags.length x.tc, .int .i64 x.least, .int .i64 x.most, .string x.group, .bool x.alone, .int .i64 x.order, .int .i64 x.from_, .int .i64 x.to_], .agg #[.string y.key, .int .i64 y.cents, .int .i64 y.many, .slice y.tv y.tags.length y.tc]] w fun e w' => e = .returned (.bool (mtB x y)) ∧ Below w.heap.size w w' := by
  have HM := Lib.hid (show mtB x y = (decide (x.tags.length = 0) || x.tags.any fun s => hasS y.tags s) from rfl)
  generalize mtB x y = b at *
  obtain ⟨k, kd, ia, ib, tv, tc, tags, le, mo, gr, al, od, fr, t2⟩ := x
  obtain ⟨yk, yc, ym, yv, ytc, yt⟩ := y
  simp only at hx hy hTx hTy HM ⊢
  have HB1 := Lib.hid ((Below.refl w.heap.size w).alloc (Nat.le_refl _) (.cells #[.string k, .int .i64 kd, .int .i64 ia, .int .i64 ib, .slice tv tags.length tc, .int .i64 le, .int .i64 mo, .string gr, .bool al, .int .i64 od, .int .i64 fr, .int .i64 t2] 109))
  have HB2 := Lib.hid (HB1.out.alloc HB1.out.size (.cells #[.string yk, .int .i64 yc, .int .i64 ym, .slice yv yt.length ytc] 178))
  have HX := Lib.hid ((XB.new w [.string k, .int .i64 kd, .int .i64 ia, .int .i64 ib, .slice tv tags.length tc, .int .i64 le, .int .i64 mo, .string gr, .bool al, .int .i64 od, .int .i64 fr, .int .i64 t2] 109).alloc (.cells #[.string yk, .int .i64 yc, .int .i64 ym, .slice yv yt.length ytc] 178))
  have HY := Lib.hid (XB.new (w.alloc (.cells #[.string k, .int .i64 kd, .int .i64 ia, .int .i64 ib, .slice tv tags.length tc, .int .i64 le, .int .i64 mo, .string gr, .bool al, .int .i64 od, .int .i64 fr, .int .i64 t2] 109)) [.string yk, .int .i64 yc, .int .i64 ym, .slice yv yt.length ytc] 178)
  simp only [List.toArray] at HX HY
  have hz : (w.alloc (.cells #[.string k, .int .i64 kd, .int .i64 ia, .int .i64 ib, .slice tv tags.length tc, .int .i64 le, .int .i64 mo, .string gr, .bool al, .int .i64 od, .int .i64 fr, .int .i64 t2] 109)).heap.size = w.heap.size + 1 := by simp
  rw [hz] at HY
  obtain ⟨n, hn⟩ : ∃ n, tags.length = n := ⟨_, rfl⟩
  have C := Lib.hid (mthR_any tv tags n tc yt yv ytc (w.heap.size + 1) ((w.alloc (.cells #[.string k, .int .i64 kd, .int .i64 ia, .int .i64 ib, .slice tv tags.length tc, .int .i64 le, .int .i64 mo, .string gr, .bool al, .int .i64 od, .int .i64 fr, .int .i64 t2] 109)).alloc (.cells #[.string yk, .int .i64 yc, .int .i64 ym, .slice yv yt.length ytc] 178)) HY.out.at4.2.2.2 hn (by omega) (by omega) (hTx.below HB2.out) (hTy.below HB2.out))
  rw [hn] at HM HX HB1 HB2 C ⊢
  generalize (tags.any fun s => hasS yt s) = ba at *
  clear hn hTx hTy hz HY
  go_enter Tryd.func154, Tryd.ntmps154
  go_upto_region 1 with (fail)
  generalize (w.alloc (.cells #[.string k, .int .i64 kd, .int .i64 ia, .int .i64 ib, .slice tv n tc, .int .i64 le, .int .i64 mo, .string gr, .bool al, .int .i64 od, .int .i64 fr, .int .i64 t2] 109)).alloc (.cells #[.string yk, .int .i64 yc, .int .i64 ym, .slice yv yt.length ytc] 178) = w1 at *
  have x4 := HX.out.at12.2.2.2.2.1
  have hq := HX.out.1
  by_cases h0 : n = 0
  · obtain rfl : b = true := HM.out.trans (by simp [h0])
    subst h0
    go_wp2_with fail
    go_ret
    exact ⟨rfl, HB2.out⟩
  · obtain rfl : b = ba := HM.out.trans (by simp [h0])
    have hd : ((n : Int) == 0) = false := by simp; omega
    have hd2 : (n == 0) = false := by simpa using h0
    go_wp2_with fail
    with_reducible refine C.out.mono ?_
    rintro e w2 ⟨rfl, b2⟩
    have HB3 := Lib.hid (HB2.out.trans (b2.mono HB2.out.size))
    go_wp2_with fail
    go_ret
    exact ⟨rfl, HB3.out⟩
end Go.Proofs.YtdnikegakcdcnaaDoor
