/- Contracts of measure's arithmetic of fractions: divisor, size, within, reduce, isRight, cmp's Compare. -/
import Derived.Test.YtdcanlkdhbmknaaGreatDoorStream
import Derived.Test.YtdcanlkdhbmknaaGreatDoorFrac
import Derived.Handy
namespace Go.Proofs.YtdcanlkdhbmknaaGreatDoor
open Go.RowKit

/-- a call that returns v and leaves the world but for draws -/
def Drw (v : Value) (w : World) (e : Ending) (w' : World) : Prop := e = .returned v ∧ ∃ n, w' = w.drewN n

theorem below_drewN {B : Nat} {a w : World} (h : Below B a w) (n : Nat) : Below B a (w.drewN n) := ⟨h.os, h.tape, h.output, h.size, h.block⟩

/-- the value of a fraction -/
def fr (n d : Int) : Value := .agg #[.int .i64 n, .int .i64 d]
end Go.Proofs.YtdcanlkdhbmknaaGreatDoor
