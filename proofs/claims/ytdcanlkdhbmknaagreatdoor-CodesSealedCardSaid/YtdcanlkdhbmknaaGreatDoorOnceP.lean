/- sync.Once in one goroutine: its lock, its deferred calls, Do at a method value whose contract is handed in. -/
import Derived.Test.YtdcanlkdhbmknaaGreatDoorOBox
import Derived.Test.YtdcanlkdhbmknaaGreatDoorChg
import Derived.Tactics
import Derived.Tactics2
import Derived.Defers
import Derived.Laws.Pointers
import Derived.Laws.LoneSync
import Derived.RegionTactic
import Derived.RegionCalls
import Derived.ChangeAlike
set_option linter.unusedVariables false
namespace Go.Proofs.YtdcanlkdhbmknaaGreatDoor
open Go.RowKit

theorem race_disable (w : World) : (callFunc 95 #[]).run Tryz.prog w = .ok (.value (.tuple #[])) w := run_call_mark0 Tryz.func95 (by kernel_rfl) (by kernel_rfl) (by kernel_rfl) .disable (by kernel_rfl) w
theorem race_enable (w : World) : (callFunc 97 #[]).run Tryz.prog w = .ok (.value (.tuple #[])) w := run_call_mark0 Tryz.func97 (by kernel_rfl) (by kernel_rfl) (by kernel_rfl) .enable (by kernel_rfl) w
theorem race_acquire (a : Addr) (w : World) : (callFunc 98 #[.pointer (some a)]).run Tryz.prog w = .ok (.value (.tuple #[])) w := run_call_marked Tryz.func98 (by kernel_rfl) (by kernel_rfl) (by kernel_rfl) .acquire (by kernel_rfl) a w
theorem race_merge (a : Addr) (w : World) : (callFunc 100 #[.pointer (some a)]).run Tryz.prog w = .ok (.value (.tuple #[])) w := run_call_marked Tryz.func100 (by kernel_rfl) (by kernel_rfl) (by kernel_rfl) .releaseMerge (by kernel_rfl) a w

theorem store_deferred (a : Addr) (x : Value) (u : FrameMode) (w : World) (hc : w.cell? a = some x) (hz : w.frozen? a = false) :
    CallsD Tryz.prog 77 #[.pointer (some a), .bool true] u w fun e u' w' => u' = u ∧ (e = .returned (.tuple #[]) ∧ w' = w.drew.setCell a (.int .u32 1)) := by
  have hc' : w.drew.cell? a = some x := by go_simp
  have hz' : w.drew.frozen? a = false := by go_simp
  have hst := run_call_store (P := Tryz.prog) Tryz.func89 (by kernel_rfl) (by kernel_rfl) (by kernel_rfl) (by kernel_rfl) (k := .u32) (y := 1) hc' hz'
  go_enter_d Tryz.func77, Tryz.ntmps77
  go_wp2
  go_region_calls
  all_goals (go_end0; exact ⟨rfl, rfl⟩)

set_option maxRecDepth 100000 in
theorem unlock_deferred (a : Addr) (u : FrameMode) (w : World) (hc : w.cell? a = some (.int .i32 1)) (hz : w.frozen? a = false) :
    CallsD Tryz.prog 76 #[.pointer (some a)] u w fun e u' w' => u' = u ∧ (e = .returned (.tuple #[]) ∧ w' = w.setCell a (.int .i32 0)) := by
  have hd := race_disable
  have he := race_enable
  have hr := race_merge
  have hadd := run_call_add (P := Tryz.prog) Tryz.func101 (by kernel_rfl) (by kernel_rfl) (by kernel_rfl) .i32 (by kernel_rfl) (y := -1) (s := 0) hc hz (by simp [go_sem]; rfl)
  have hcv := run_convert_to_unsafe (P := Tryz.prog) (src := 154) (dst := 105) Tryz.underlying154 Tryz.underlying105 (by kernel_rfl) hc
  go_enter_d Tryz.func76, Tryz.ntmps76
  go_wp2
  go_end0
  go_wp2

set_option maxRecDepth 100000 in
theorem lock_free (a : Addr) (w : World) (hc : w.cell? a = some (.int .i32 0)) (hz : w.frozen? a = false) :
    Calls Tryz.prog 75 #[.pointer (some a)] w fun e w' => e = .returned (.tuple #[]) ∧ w' = w.setCell a (.int .i32 1) := by
  have hd := race_disable
  have he := race_enable
  have ha := race_acquire
  have hcas := run_call_cas_hit (P := Tryz.prog) Tryz.func96 (by kernel_rfl) (by kernel_rfl) (by kernel_rfl) .i32 (by kernel_rfl) (y := 1) hc hz
  have hc' : (w.setCell a (.int .i32 1)).cell? a = some (.int .i32 1) := World.cell?_setCell_same w a _ hc
  have hcv := run_convert_to_unsafe (P := Tryz.prog) (src := 154) (dst := 105) Tryz.underlying154 Tryz.underlying105 (by kernel_rfl) hc'
  go_enter Tryz.func75, Tryz.ntmps75
  go_wp2
  first | go_end0 | (simp only [Exit.inBlock, Exit.then]; refine bodyPost_ret (results_none rfl _ _ _) rfl ?_) | refine bodyPost_ret (results_none rfl _ _ _) rfl ?_
  go_wp2

theorem load_zero (a : Addr) (w : World) (hc : w.cell? a = some (.int .u32 0)) :
    Calls Tryz.prog 55 #[.pointer (some a)] w fun e w' => e = .returned (.bool false) ∧ w = w' := by
  have hl := run_call_load (P := Tryz.prog) Tryz.func74 (by kernel_rfl) (by kernel_rfl) (by kernel_rfl) .u32 (by kernel_rfl) (w := w) (a := a) (x := 0) hc
  go_enter Tryz.func55, Tryz.ntmps55
  go_wp2_with fail
  go_ret
  exact ⟨rfl, rfl⟩

/-- what the function handed to Do owes: at a Once that is locked and not done, it leaves the Once so; what stands behind the Once turns to R -/
def OnceF (t : TypeId) (p : Nat) (v : Value) (R : List Value → World → Prop) (w1 : World) : Prop :=
  Calls Tryz.prog 42 #[v] w1 fun e w2 => e = .returned (.tuple #[]) ∧ ∃ ys, OB w2 p ([.int .u32 0, .int .i32 1, .int .u32 0] ++ ys) t ∧ R ys w2

set_option maxRecDepth 100000 in
set_option maxHeartbeats 1600000 in
theorem slow_any (t : TypeId) (p : Nat) (v : Value) (xs : List Value) (R : List Value → World → Prop) (w : World) (HF : OnceF t p v R (w.setCell ⟨p, 1, none⟩ (.int .i32 1))) (h : OB w p ([.int .u32 0, .int .i32 0, .int .u32 0] ++ xs) t) :
    Calls Tryz.prog 56 #[.pointer (some ⟨p, 0, none⟩), .func (.func 42) #[v] #[]] w fun e w' => e = .returned (.tuple #[]) ∧
      ∃ w2 ys, R ys w2 ∧ OB w2 p ([.int .u32 0, .int .i32 1, .int .u32 0] ++ ys) t ∧ w' = (w2.drew.setCell ⟨p, 0, none⟩ (.int .u32 1)).setCell ⟨p, 1, none⟩ (.int .i32 0) := by
  have h1 : OB (w.setCell ⟨p, 1, none⟩ (.int .i32 1)) p ([.int .u32 0, .int .i32 1, .int .u32 0] ++ xs) t := h.put 1 _ rfl
  have HL := Lib.hid (lock_free ⟨p, 1, none⟩ w (h.cell 1 _ rfl) (h.free 1))
  have HLD := Lib.hid (load_zero ⟨p, 0, none⟩ _ (h1.cell 0 _ rfl))
  have hnot : ∀ (x : Bool) (w : World), (Op.unary .not (.bool x)).run Tryz.prog w = .ok (.bool (!x)) w := fun _ _ => rfl
  unfold OnceF at HF
  have HC := Lib.hid HF
  clear h1 h HF
  go_enter_defers Tryz.func56, Tryz.ntmps56
  go_wp2_with fail
  refine HL.out.mono ?_
  rintro e w' ⟨rfl, rfl⟩
  go_wp2_with fail
  with_reducible refine HLD.out.mono ?_
  rintro e w1 ⟨rfl, rfl⟩
  go_wp2_with fail
  with_reducible refine HC.out.mono ?_
  rintro e w2 ⟨rfl, ys, h2, hR⟩
  have H2 := Lib.hid h2
  have HR := Lib.hid hR
  clear h2 hR HLD HC HL
  go_wp2_with fail
  refine leaves_cons (f := 77) (args := #[.pointer (some ⟨p, 0, none⟩), .bool true]) (by simp) (by simp [go_sem]) ?_
  refine (store_deferred ⟨p, 0, none⟩ (.int .u32 0) .returning _ (H2.out.cell 0 _ rfl) (H2.out.free 0)).mono ?_
  rintro e u' w'' ⟨rfl, rfl, rfl⟩
  have H3 : Hid (OB (w2.drew.setCell ⟨p, 0, none⟩ (.int .u32 1)) p ([.int .u32 1, .int .i32 1, .int .u32 0] ++ ys) t) := Lib.hid (OB.put (w := w2.drew) H2.out 0 _ rfl)
  refine leaves_cons (f := 76) (args := #[.pointer (some ⟨p, 1, none⟩)]) (by simp [settle]) (by simp [go_sem]) ?_
  refine (unlock_deferred ⟨p, 1, none⟩ _ _ (H3.out.cell 1 _ rfl) (H3.out.free 1)).mono ?_
  rintro e u' w'' ⟨rfl, rfl, rfl⟩
  have HQ := Lib.hid (show ∃ w3 ys, R ys w3 ∧ OB w3 p ([.int .u32 0, .int .i32 1, .int .u32 0] ++ ys) t ∧ (w2.drew.setCell ⟨p, 0, none⟩ (.int .u32 1)).setCell ⟨p, 1, none⟩ (.int .i32 0) = (w3.drew.setCell ⟨p, 0, none⟩ (.int .u32 1)).setCell ⟨p, 1, none⟩ (.int .i32 0) from ⟨w2, ys, HR.out, H2.out, rfl⟩)
  clear H2 HR H3 hnot
  simp [Leaves, settle, results, Tryz.results56]
  exact HQ.out

set_option maxRecDepth 100000 in
set_option maxHeartbeats 1600000 in
/-- Do at a Once that is new: the function is called. -/
theorem do_first (t : TypeId) (p : Nat) (v : Value) (xs : List Value) (R : List Value → World → Prop) (w : World) (HF : OnceF t p v R (w.setCell ⟨p, 1, none⟩ (.int .i32 1))) (h : OB w p ([.int .u32 0, .int .i32 0, .int .u32 0] ++ xs) t) :
    Calls Tryz.prog 41 #[.pointer (some ⟨p, 0, none⟩), .func (.func 42) #[v] #[]] w fun e w' => e = .returned (.tuple #[]) ∧
      ∃ w2 ys, R ys w2 ∧ OB w2 p ([.int .u32 0, .int .i32 1, .int .u32 0] ++ ys) t ∧ w' = (w2.drew.setCell ⟨p, 0, none⟩ (.int .u32 1)).setCell ⟨p, 1, none⟩ (.int .i32 0) := by
  have HLD := Lib.hid (load_zero ⟨p, 0, none⟩ _ (h.cell 0 _ rfl))
  have hnot : ∀ (x : Bool) (w : World), (Op.unary .not (.bool x)).run Tryz.prog w = .ok (.bool (!x)) w := fun _ _ => rfl
  have HC := Lib.hid (slow_any t p v xs R w HF h)
  clear h HF
  go_enter Tryz.func41, Tryz.ntmps41
  go_wp2_with fail
  with_reducible refine HLD.out.mono ?_
  rintro e w1 ⟨rfl, rfl⟩
  go_wp2_with fail
  with_reducible refine HC.out.mono ?_
  rintro e w' ⟨rfl, HR⟩
  have HR := Lib.hid HR
  go_wp2_with fail
  go_end0
  exact ⟨rfl, HR.out⟩
end Go.Proofs.YtdcanlkdhbmknaaGreatDoor
