/- The law LockNobody, run with free cells. -/
import Derived.Test.YtneihhmjeeiomaaGreatDoorPvShape
import Derived.Test.YtneihhmjeeiomaaGreatDoorProg
import Derived.KernelRfl
namespace Go.Pv.LockNobody
open Go.Proofs Go.Pv
def tbl : List (Nat × Pr) := []
theorem tbl_ok : ∀ x ∈ tbl, PrFact Tryz.prog x := by
  intro x hx
  cases hx
theorem mixedO : Tryz.prog.follows .mixedOrders = true := by kernel_rfl
theorem run (n0_0 : Int) (a0_1 : Option Addr) (l0_1 c0_1 : Nat) (a0_2 : Option Addr) (l0_2 c0_2 : Nat) : isTrue (evFn (primOf tbl) Tryz.prog 300 3 [.agg [.val (.int .i64 n0_0), .val (.slice a0_1 l0_1 c0_1), .val (.slice a0_2 l0_2 c0_2)]] (noHeap fun _ => none)) = true := by kernel_rfl
set_option maxRecDepth 100000 in
theorem law_walk (n0_0 : Int) (a0_1 : Option Addr) (l0_1 c0_1 : Nat) (a0_2 : Option Addr) (l0_2 c0_2 : Nat) : PCalls Tryz.prog 3 [.agg [.val (.int .i64 n0_0), .val (.slice a0_1 l0_1 c0_1), .val (.slice a0_2 l0_2 c0_2)]] (noHeap fun _ => none) fun d _ => d = .val (.bool true) := law_of_run tbl_ok mixedO (run n0_0 a0_1 l0_1 c0_1 a0_2 l0_2 c0_2)
end Go.Pv.LockNobody
