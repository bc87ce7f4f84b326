/- measure.Adds. -/
import Derived.Test.YtmhnnbffhciinaaDoorFold
set_option linter.unusedVariables false
namespace Go.Proofs.YtmhnnbffhciinaaDoor
open Go.RowKit

/-- what Adds tells: the error, and whether the fold is the other list -/
def addE2 (l parent : List Ce) (keep : List Int) : Int := if fdE l keep ≠ 0 then fdE l keep else ceE parent
def addB (l parent : List Ce) (keep : List Int) : Bool := if addE2 l parent keep ≠ 0 then false else decide (foldL (l.map Ce.el) keep = parent.map Ce.el)
theorem add_1 {l parent : List Ce} {keep : List Int} {F : Int} (h : fdE l keep = F) (h0 : F ≠ 0) : addE2 l parent keep = F ∧ addB l parent keep = false := by
  have h1 : addE2 l parent keep = F := by unfold addE2; rw [h, if_pos h0]
  exact ⟨h1, by unfold addB; rw [h1, if_pos h0]⟩
theorem add_2 {l parent : List Ce} {keep : List Int} {E : Int} (h : fdE l keep = 0) (hp : ceE parent = E) : addE2 l parent keep = E := by
  unfold addE2
  rw [if_neg (by omega), hp]
theorem add_3 {l parent o : List Ce} {keep : List Int} (h : addE2 l parent keep = 0) (ho : o.map Ce.el = foldL (l.map Ce.el) keep) : addB l parent keep = sameB o parent := by
  unfold addB sameB
  rw [if_neg (by omega), ho]
def AddsOut (w : World) (l parent : List Ce) (keep : List Int) (e : Ending) (w' : World) : Prop := e = .returned (.tuple #[.bool (addB l parent keep), .int .i64 (addE2 l parent keep)]) ∧ Below w.heap.size w w'
theorem AddsOut.mk {w w' : World} {l parent : List Ce} {keep : List Int} {b : Bool} {E : Int} (hE : addE2 l parent keep = E) (hb : addB l parent keep = b) (h : Below w.heap.size w w') : AddsOut w l parent keep (.returned (.tuple #[.bool b, .int .i64 E])) w' := ⟨by rw [hE, hb], h⟩

set_option maxRecDepth 100000 in
set_option maxHeartbeats 8000000 in
theorem Adds_any (a : Option Addr) (l : List Ce) (n c : Nat) (ap : Option Addr) (parent : List Ce) (np cp : Nat) (ak : Option Addr) (keep : List Int) (m ck : Nat) (w : World) (hn : l.length = n) (hn1 : n ≤ 16) (hI : RAt w a 3 Ce.cells l) (hT : TagsAt Ce.tv Ce.keys w l) (hok : ∀ x ∈ l, x.ok)
    (hnp : parent.length = np) (hnp1 : np ≤ 16) (hIp : RAt w ap 3 Ce.cells parent) (hTp : TagsAt Ce.tv Ce.keys w parent) (hokp : ∀ x ∈ parent, x.ok) (hm : keep.length = m) (hm1 : m ≤ 16) (hK : IntsAt w ak keep) (hkb : ∀ z ∈ keep, -100 ≤ z ∧ z ≤ 100) :
    Calls Tryd.prog 12 #[.slice a n c, .slice ap np cp, .slice ak m ck] w (AddsOut w l parent keep) := by
  have CF := Lib.hid (Fold_any a l n c ak keep m ck w hn hn1 hI hT hok hm hm1 hK hkb)
  have HIP := Lib.hid hIp
  have HTP := Lib.hid hTp
  have CP := Lib.hid (fun w' (hb : Below w.heap.size w w') => CheckCells_any ap parent np cp w' hnp (by omega) (hIp.below hb) (hTp.below hb) hokp)
  have HLP := Lib.hid (fun x (hx : x ∈ parent) => show x.keys.length ≤ 1000 from by have := (hokp x hx).1; omega)
  have HNP := Lib.hid hnp
  have HA1 := Lib.hid (fun h0 => add_1 (l := l) (parent := parent) (keep := keep) (F := fdE l keep) rfl h0)
  have HA2 := Lib.hid (fun h => add_2 (l := l) (parent := parent) (keep := keep) (E := ceE parent) h rfl)
  have HFK := Lib.hid (fun (o : List Ce) (ho : o.map Ce.el = foldL (l.map Ce.el) keep) => show ∀ x ∈ o, x.keys.length ≤ 1000 from fun x hx => by
    have h1 := (foldL_key (l := l) (keep := keep) (n := 16) hok (by omega) x.el (by rw [← ho]; exact List.mem_map_of_mem hx)).1
    have h2 : x.keys.length ≤ 16 := h1
    omega)
  have HFN := Lib.hid (fun (o : List Ce) (ho : o.map Ce.el = foldL (l.map Ce.el) keep) => show o.length ≤ 16 from by
    have h1 := foldL_len (l.map Ce.el) keep
    rw [← ho, List.length_map, List.length_map] at h1
    omega)
  clear hn hI hT hok hnp hIp hTp hokp hm hK hkb
  go_enter Tryd.func12, Tryd.ntmps12
  go_wp2_with fail
  with_reducible refine CF.out.mono ?_
  rintro e w1 ⟨fa, fc, o, rfl, hr, ht, hb, ho⟩
  have HR := Lib.hid hr
  have HT := Lib.hid ht
  have HB := Lib.hid hb
  have HO := Lib.hid ho
  obtain ⟨F, hF⟩ : ∃ F, fdE l keep = F := ⟨_, rfl⟩
  rw [hF] at HA1 HA2 HO ⊢
  clear hr ht hb ho CF hF
  by_cases hF0 : F = 0
  · subst hF0
    have HOE := Lib.hid (HO.out.trans (if_pos rfl))
    have HA2' := Lib.hid (HA2.out rfl)
    have hon := HFN.out o HOE.out
    have HOK := Lib.hid (HFK.out o HOE.out)
    obtain ⟨no, hno⟩ : ∃ z, o.length = z := ⟨_, rfl⟩
    rw [hno] at hon ⊢
    have HNO := Lib.hid hno
    obtain ⟨E, hE⟩ : ∃ E, ceE parent = E := ⟨_, rfl⟩
    have CP1 := Lib.hid (CP.out w1 HB.out)
    rw [hE] at HA2' CP1
    clear hno hE HA1 HA2 CP HO
    go_wp2_with fail
    with_reducible refine CP1.out.mono ?_
    rintro e w2 ⟨rfl, b2⟩
    have HB2 := Lib.hid (HB.out.trans (b2.mono HB.out.size))
    have HR2 := Lib.hid (HR.out.below b2)
    have HT2 := Lib.hid (HT.out.below b2)
    clear b2 CP1
    by_cases hE0 : E = 0
    · subst hE0
      have CS := Lib.hid (addsCeF_any fa ap o parent no np fc cp w2 HNO.out HNP.out (by omega) (by omega) HR2.out HT2.out (HIP.out.below HB2.out) (HTP.out.below HB2.out) HOK.out HLP.out)
      have HBV := Lib.hid (add_3 HA2'.out HOE.out)
      generalize sameB o parent = b at *
      go_wp2_with fail
      with_reducible refine CS.out.mono ?_
      rintro e w3 ⟨rfl, b3⟩
      have HB3 := Lib.hid (HB2.out.trans (b3.mono HB2.out.size))
      go_wp2_with fail
      go_ret2
      exact AddsOut.mk HA2'.out HBV.out HB3.out
    · have HBV := Lib.hid (show addB l parent keep = false by unfold addB; rw [HA2'.out, if_pos hE0])
      have hne : (E != 0) = true := by simpa using hE0
      clear hE0
      go_wp2_with fail
      go_ret2
      exact AddsOut.mk HA2'.out HBV.out HB2.out
  · have HA := Lib.hid (HA1.out hF0)
    have hne : (F != 0) = true := by simpa using hF0
    clear HO HA1 HA2 hF0 CP
    go_wp2_with fail
    go_ret2
    exact AddsOut.mk HA.out.1 HA.out.2 HB.out
end Go.Proofs.YtmhnnbffhciinaaDoor
