/- A part of the proof: functions of the program, walked, or what operations come to. -/
import Derived.Test.YtpedcchnhjffpaaGreatPvGen
namespace Go.Pv

/-! The append of a seat's type, as a function of the element's type and size (as in S4.tpl). -/
def appK (e b : Nat) (s : D) (m : Option (List D)) (H : Heap) : Option (D × Heap) := match m with
  | some m => if isSliceD s = true then (if m.isEmpty = true then some (s, H) else match onto H e s with
    | some (l, H') => if (l.length + m.length) * b ≤ 140737488355328 then some (.row H.nx e 0 (l.length + m.length), H'.new (.row e (l ++ m))) else none
    | none => none) else none
  | none => none
theorem eAppend_of {P : Program} {t u e : TypeId} {inf : TypeInfo} {z : Value} (ht : P.underlying t = some (.slice e)) (hi : P.info? e = some inf) (hz : inf.zero = some z) {b : Nat} (hb : inf.bytes = b) (h0 : 0 < inf.size) (h1 : 0 < b) (h2 : z.cells.size = inf.size) (s x : D) (H : Heap) :
    eAppend P t u s x H = appK e b s (news P H e u x) H := by
  unfold eAppend appK
  rw [ht]
  simp only [hi, hz]
  subst hb
  cases news P H e u x with
  | none => rfl
  | some m => simp only [h0, h1, h2, true_and]; rfl
/-! A row that is made. -/
def mkK (e b : Nat) (z : D) (n c : D) (H : Heap) : Option (D × Heap) := match n, c with
  | .val (.int _ n), .val (.int _ c) => if 0 ≤ n ∧ n ≤ c ∧ b * c ≤ 281474976710656 ∧ c ≤ 9223372036854775807 then some (.row H.nx e 0 n.toNat, H.new (.row e (List.replicate n.toNat z))) else none
  | _, _ => none
theorem eMake_of {P : Program} {t e : TypeId} {inf : TypeInfo} {z : D} (ht : P.underlying t = some (.slice e)) (hi : P.info? e = some inf) (hz : zeroElem P e = some z) {b : Nat} (hb : inf.bytes = b) (h0 : 0 < inf.size) (n c : D) (H : Heap) :
    eMakeSlice P t n c H = mkK e b z n c H := by
  subst hb
  unfold eMakeSlice mkK
  split
  · rename_i e2 _ n _ c ht2
    rw [ht] at ht2
    cases ht2
    simp only [hi, hz, h0, true_and]
  · rename_i hno
    split
    · rename_i k1 n k2 c
      exact (hno e k1 n k2 c ht rfl rfl).elim
    · rfl
end Go.Pv
