/- A part of the proof: functions of the program, walked, or what operations come to. -/
import Derived.Test.YtnmpinbfddjhmaaPvWL
import Derived.Test.YtnmpinbfddjhmaaPvArgs5
namespace Go.Pv
open Go.Proofs
attribute [-simp] eLen UInt8.ofNat_add



set_option maxRecDepth 100000 in
theorem ValueOrder_walk (m : Int) (c0 : List D) (h0 : OkC Try.prog 9 3 c0) (c1 : List D) (h1 : OkC Try.prog 9 30 c1) (c2 : List D) (h2 : OkC Try.prog 9 4 c2) :
    PCalls Try.prog 4 [elemOf Try.prog 3 c0, elemOf Try.prog 30 c1, elemOf Try.prog 4 c2] (noHeap (maxG 0 m)) fun d _ => d = .val (.bool true) := by
  obtain ⟨s, rfl⟩ := int_of Try.underlying3 h0
  obtain ⟨a, b, c, rfl, ha, hb, hc⟩ := strs3_of Try.underlying30 Try.underlying9 h1
  obtain ⟨sw, rfl⟩ := bool_of Try.underlying4 h2
  have e0 : elemOf Try.prog 3 [.val (.int .i64 s)] = .val (.int .i64 s) := by unfold elemOf; rw [Try.underlying3]; rfl
  have e1 : elemOf Try.prog 30 [sD a, sD b, sD c] = three a b c := by unfold elemOf; rw [Try.underlying30]; rfl
  have e2 : elemOf Try.prog 4 [.val (.bool sw)] = .val (.bool sw) := by unfold elemOf; rw [Try.underlying4]; rfl
  rw [e0, e1, e2]
  exact law_local s a b c sw m ha hb hc
end Go.Pv
