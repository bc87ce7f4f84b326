/- measure.Arm, and slices.EqualFunc over lists of strings. -/
import Derived.Test.YtdnikegakcdcnaaDoorArmsSpec
set_option linter.unusedVariables false
namespace Go.Proofs.YtdnikegakcdcnaaDoor
open Go.RowKit

def armFn (name : ByteArray) (ws : List Int) (hold : Int) (key : ByteArray) : Int × Int := if splitE (keyB name) ws hold ≠ 0 then (0, splitE (keyB name) ws hold) else if keyB key = false then (0, 5) else (armV name ws hold key, 0)

set_option maxRecDepth 100000 in
set_option maxHeartbeats 4000000 in
theorem Arm_any (name key : ByteArray) (a : Option Addr) (ws : List Int) (n c : Nat) (hold : Int) (w : World) (hn : ws.length = n) (hn1 : n ≤ 1000) (hI : IntsAt w a ws) (hn2 : name.size ≤ 100) (hk : key.size ≤ 100) :
    Calls Tryd.prog 28 #[.agg #[.string name, .slice a n c, .int .i64 hold], .string key] w fun e w' => e = .returned (.tuple #[.int .i64 (armFn name ws hold key).1, .int .i64 (armFn name ws hold key).2]) ∧ Below w.heap.size w w' := by
  have C1 := Lib.hid (fun w' (h : IntsAt w' a ws) => CheckSplit_any name a ws n c hold w' hn hn1 h hn2)
  have CK := Lib.hid (fun w => isKey_any key w (by unfold maxLen; omega))
  obtain ⟨F, hF⟩ : ∃ F, armFn name ws hold key = F := ⟨_, rfl⟩
  rw [hF]
  have HF := Lib.hid hF.symm
  unfold armFn at HF
  clear hF
  obtain ⟨se, hse⟩ : ∃ se, splitE (keyB name) ws hold = se := ⟨_, rfl⟩
  have HOKS := Lib.hid (fun h : se = 0 => splitE_ok (hse.trans h))
  rw [hse] at HF C1
  clear hse
  have HN := Lib.hid hn
  have HI1 := Lib.hid (hI.alloc (.cells #[.string name, .slice a n c, .int .i64 hold] 45))
  have HB1 := Lib.hid ((Below.refl w.heap.size w).alloc (Nat.le_refl _) (.cells #[.string name, .slice a n c, .int .i64 hold] 45))
  have HX1 := Lib.hid (XB.new w [.string name, .slice a n c, .int .i64 hold] 45)
  simp only [List.toArray] at HX1
  clear hn hI
  generalize keyB key = kb at *
  go_enter Tryd.func28, Tryd.ntmps28
  go_wp2_with fail
  with_reducible refine (C1.out _ HI1.out).mono ?_
  rintro e w1 ⟨rfl, b1⟩
  have HB2 := Lib.hid (HB1.out.trans (b1.mono HB1.out.size))
  have HI2 := Lib.hid (HI1.out.below b1)
  have hX2 := HX1.out.below b1
  have x0 := hX2.2 0 _ rfl
  have x1 := hX2.2 1 _ rfl
  have x2 := hX2.2 2 _ rfl
  clear HI1 HB1 HX1 C1 b1 hX2
  generalize hq : w.heap.size = q at *
  have HQ := Lib.hid hq
  clear hq
  by_cases hs0 : se = 0
  · have HOK := Lib.hid (HOKS.out hs0)
    have HF2 := Lib.hid (HF.out.trans (if_neg (by simpa using hs0)))
    subst hs0
    clear HOKS HF
    go_wp2_with fail
    with_reducible refine (CK.out _).mono ?_
    rintro e w2 ⟨rfl, rfl⟩
    cases kb with
    | false =>
      obtain rfl : F = (0, 5) := HF2.out
      go_wp2_with fail
      go_ret2
      exact ⟨rfl, by rw [HQ.out]; exact HB2.out⟩
    | true =>
      obtain rfl : F = (armV name ws hold key, 0) := HF2.out
      obtain ⟨hok0, hok1, hok2, hok3, hok4, hok5, hok6⟩ := HOK.out
      rw [HN.out] at hok1
      have HOK3 := Lib.hid hok3
      clear HOK hok3 hok0
      go_wp2_with fail
      with_reducible refine (arm_any name key _ ws _ _ hold _ HN.out (by omega) HI2.out HOK3.out hok4 hok5 hok6 hn2 hk).mono ?_
      rintro e w5 ⟨rfl, b5⟩
      have HB5 := Lib.hid (HB2.out.trans (b5.mono (by have := HB2.out.size; have := HQ.out; omega)))
      clear b5
      go_wp2_with fail
      go_ret2
      exact ⟨rfl, by rw [HQ.out]; exact HB5.out⟩
  · obtain rfl : F = (0, se) := HF.out.trans (if_pos hs0)
    go_wp2_with fail
    go_ret2
    exact ⟨rfl, by rw [HQ.out]; exact HB2.out⟩

set_option maxRecDepth 100000 in
set_option maxHeartbeats 4000000 in
theorem equalFunc_ss (w : World) (v v' : Value) (L : List (List ByteArray)) (h : SSAt w v L) (h' : SSAt w v' L) (hl : L.length ≤ 1000) (hle : ∀ l ∈ L, l.length ≤ 1000) :
    Calls Tryd.prog 32 #[v, v', .func (.func 33) #[] #[]] w fun e w' => e = .returned (.bool true) ∧ ∃ q, w' = w.drewN q := by
  obtain ⟨a, c, rfl, hA⟩ := h
  obtain ⟨a', c', rfl, hA'⟩ := h'
  have HA := Lib.hid hA
  have HA' := Lib.hid hA'
  have HLE := Lib.hid hle
  clear hA hA' hle
  obtain ⟨n, hn⟩ : ∃ n, L.length = n := ⟨_, rfl⟩
  rw [hn] at hl ⊢
  have HN := Lib.hid hn
  clear hn
  go_enter Tryd.func32, Tryd.ntmps32
  go_wp2_with fail
  go_loopw [7, 8, 9, 17] (fun _ _ _ i wr => ∃ (k q : Nat), k ≤ n ∧ i = .int .i64 k ∧ wr = w.drewN q) (fun _ _ _ i _ => n - (intOf i).toNat)
  case atStart => exact ⟨0, 0, Nat.zero_le _, rfl, rfl⟩
  case round =>
    obtain ⟨k, q, hk, rfl, rfl⟩ := hrel
    by_cases hlt : k < n
    · have hkl : k < L.length := by have := HN.out; omega
      obtain ⟨p, off, rfl, hp, b, d, c0, hs⟩ := HA.out k hkl
      obtain ⟨p', off', rfl, hp', b', d', c0', hs'⟩ := HA'.out k hkl
      have hl1 := HLE.out L[k] (List.getElem_mem hkl)
      generalize L[k] = l at *
      have C := Lib.hid (equal_strs b b' l l.length d d' (w.drewN q) rfl hl1 hs hs')
      have y0 : (w.drewN q).cell? ⟨p, off + k, none⟩ = some (.slice b l.length d) := c0
      have y0' : (w.drewN q).cell? ⟨p', off' + k, none⟩ = some (.slice b' l.length d') := c0'
      clear c0 c0' hs hs'
      generalize hwq : w.drewN q = wq at *
      have HWQ := Lib.hid hwq
      clear hwq
      go_wp2_with fail
      with_reducible refine C.out.mono ?_
      rintro e w2 ⟨rfl, q2, rfl⟩
      go_wp2_with fail
      go_roundw
      case rel => exact ⟨k + 1, q + q2, by omega, by go_num, by rw [← HWQ.out, World.drewN_drewN]⟩
      case measure => simp [intOf]; omega
    · go_wp2_with fail
      go_ret
      exact ⟨rfl, q, rfl⟩
end Go.Proofs.YtdnikegakcdcnaaDoor
