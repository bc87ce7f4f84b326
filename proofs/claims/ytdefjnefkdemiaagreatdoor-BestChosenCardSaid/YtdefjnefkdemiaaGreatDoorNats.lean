/- Slices of ints that are naturals. -/
import Derived.Test.YtdefjnefkdemiaaGreatDoorTotal
set_option linter.unusedVariables false
namespace Go.Proofs.YtdefjnefkdemiaaGreatDoor
open Go.RowKit

def natsAt (w : World) (a : Option Addr) (ws : List Nat) : Prop := IntsAt w a (ws.map fun (x : Nat) => (x : Int))
theorem natsAt.at_ {w : World} {a : Option Addr} {ws : List Nat} (h : natsAt w a ws) {k : Nat} (hk : k < ws.length) :
    ∃ p off, a = some ⟨p, off, none⟩ ∧ p < w.heap.size ∧ w.cell? ⟨p, off + k, none⟩ = some (.int .i64 (ws[k] : Int)) := by
  obtain ⟨p, off, h1, h2, h3⟩ := h k (by simpa using hk)
  exact ⟨p, off, h1, h2, by simpa using h3⟩
theorem sum_take_le (ws : List Nat) (k : Nat) : (ws.take k).sum ≤ ws.sum := by
  have h := congrArg List.sum (List.take_append_drop k ws)
  rw [List.sum_append] at h
  omega
theorem sum_take_succ (ws : List Nat) (k : Nat) (hk : k < ws.length) : (ws.take (k + 1)).sum = (ws.take k).sum + ws[k] := by
  rw [List.take_succ_eq_append_getElem hk, List.sum_append]; simp
theorem elem_le_sum (ws : List Nat) (k : Nat) (hk : k < ws.length) : ws[k] ≤ ws.sum := by
  have h1 := sum_take_succ ws k hk
  have h2 := sum_take_le ws (k + 1)
  omega
theorem sum_cast (ws : List Nat) : (ws.map fun (x : Nat) => (x : Int)).sum = ((ws.sum : Nat) : Int) := by
  induction ws with
  | nil => rfl
  | cons x l ih => simp only [List.map_cons, List.sum_cons, ih]; omega
theorem total_nats (a : Option Addr) (ws : List Nat) (n c : Nat) (w : World) (hn : ws.length = n) (hn1 : n ≤ 1000000) (hr : natsAt w a ws) (hb : ∀ x ∈ ws, x ≤ 1000000000000) :
    Calls Tryz.prog 44 #[.slice a n c] w fun e w' => e = .returned (.int .i64 (ws.sum : Nat)) ∧ w = w' := by
  have h := total_any a (ws.map fun (x : Nat) => (x : Int)) n c w (by simpa using hn) hn1 hr (fun z hz => by
    obtain ⟨x, hx, rfl⟩ := List.mem_map.1 hz
    have := hb x hx
    omega)
  rw [sum_cast] at h
  exact h
end Go.Proofs.YtdefjnefkdemiaaGreatDoor
