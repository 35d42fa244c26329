/- A part of the proof: functions of the program, walked, or what operations come to. -/
import Derived.Test.YtpedcchnhjffpaaGreatPvMore
import Derived.Test.YtpedcchnhjffpaaGreatPvTame
import Derived.Test.YtpedcchnhjffpaaGreatPvOrd
import Derived.Test.YtpedcchnhjffpaaGreatPvPrim
namespace Go.Pv
open Go.RowKit
/-! ### What walks of any program use -/
def strD (s : ByteArray) : D := .val (.string s)
theorem Heap.new_get (H : Heap) (o : PObj) (j : Nat) : (H.new o).get j = if j = H.nx then some o else H.get j := by
  split
  · rename_i e; subst e; exact Heap.new_same _ _
  · rename_i e; exact Heap.new_ne _ _ e
theorem Heap.put_get (H : Heap) (o : Option PObj) (i j : Nat) : (H.put i o).get j = if j = i then o else H.get j := by
  split
  · rename_i e; subst e; exact Heap.put_same _ _ _
  · rename_i e; exact Heap.put_ne _ _ e
/-- Kept for later, out of simp's sight. -/
structure Hold (p : Prop) : Prop where
  out : p
theorem get_of {α : Type} {l : List α} {k : Nat} {x : α} (h : l[k]? = some x) : ∀ h, l[k]'h = x := fun q => by rw [List.getElem?_eq_getElem q] at h; exact Option.some.inj h
theorem wrapSucc (k : Nat) (h : k < 140737488351232) : IntKind.i64.wrap ((k : Int) + 1) = ((k + 1 : Nat) : Int) := by
  simp [IntKind.wrap, IntKind.bits, IntKind.signed]; omega
def noG : Nat → Option (List D) := fun _ => none
def runFz (P : Program) (n f : Nat) (ds : List D) : Option D := match evFn (primOf []) P n f ds (noHeap noG) with
  | some (d, H) => fz P 20 H d
  | none => none
set_option maxRecDepth 100000 in
theorem runFz_spec {P : Program} (hm : P.follows .mixedOrders = true) {n f : Nat} {ds : List D} {r : D} (h : runFz P n f ds = some r) : PCalls P f ds (noHeap noG) fun d _ => d = r := by
  unfold runFz at h
  split at h
  · rename_i d H e
    exact PCalls.frozen (n := 20) ((run_of (tbl := []) (fun x hx => by cases hx) hm e).mono fun d' H' q => by rw [q.1, q.2]; exact h)
  · cases h
theorem PCalls.liftG {P : Program} {f : FuncId} {ds : List D} {r : D} (h : PCalls P f ds (noHeap noG) fun d _ => d = r) (hds : ∀ d ∈ ds, Pure d) (hr : Pure r) (H : Heap) : PCalls P f ds H fun d H' => d = r ∧ H' = H :=
  PCalls.liftR (G := noG) h hds (fun d q => q ▸ hr) (fun g cs h => by cases h) (fun g cs h => by cases h)
end Go.Pv
