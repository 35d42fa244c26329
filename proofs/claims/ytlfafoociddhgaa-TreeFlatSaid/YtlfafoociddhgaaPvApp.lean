/- A part of the proof: functions of the program, walked, or what operations come to. -/
import Derived.Test.YtlfafoociddhgaaPvGen
namespace Go.Pv

/-! The append of a seat's type, as a function of the element's type and size (as in S4.tpl). -/
def appK (e b : Nat) (s : D) (m : Option (List D)) (H : Heap) : Option (D × Heap) := match m with
  | some m => if isSliceD s = true then (if m.isEmpty = true then some (s, H) else match onto H e s with
    | some (l, H') => if (l.length + m.length) * b ≤ 140737488355328 then some (.row H.nx e 0 (l.length + m.length), H'.new (.row e (l ++ m))) else none
    | none => none) else none
  | none => none
theorem eAppend_of {P : Program} {t u e : TypeId} {inf : TypeInfo} {z : Value} (ht : P.underlying t = some (.slice e)) (hi : P.info? e = some inf) (hz : inf.zero = some z) {b : Nat} (hb : inf.bytes = b) (h0 : 0 < inf.size) (h1 : 0 < b) (h2 : z.cells.size = inf.size) (s x : D) (H : Heap) :
    eAppend P t u s x H = appK e b s (news P H e u x) H := by
  unfold eAppend appK
  rw [ht]
  simp only [hi, hz]
  subst hb
  cases news P H e u x with
  | none => rfl
  | some m => simp only [h0, h1, h2, true_and]; rfl
end Go.Pv
