/- From a contract to the row. -/
import Derived.Test.YtmaajijhfpdefaaPwUse
import Derived.SliceStrings
import Derived.ChangeSlices
namespace Go.Pw
open Go.RowKit
/-! ### From a contract to the row: the heap is empty, what came in is what the world holds -/
def ghOf (W : World) : Gh := ⟨fun a v => W.cell? a = some v ∧ v.oneCell' = true, fun _ _ => False, fun _ _ _ _ _ => False⟩
def noHeap : Heap := fun _ => none

theorem rel_start (P : Program) (W : World) : Rel P W.heap.size W (ghOf W) noHeap W where
  below := Below.refl _ _
  size := Nat.le_refl _
  know := fun a v h => h
  boxOf := fun i cs h => by cases h
  boxFun := fun i b b' h => h.elim
  boxSep := fun i cs b h => by cases h
  boxInj := fun i j cs cs' b h => by cases h
  tokOf := fun g h => by cases h
  tokFun := fun g b n c e b' n' c' e' h => h.elim
  tokSep := fun g b n c e h => by cases h
  tokInj := fun g g' b n c e n' c' e' h => by cases h
  tokBox := fun g i cs b n c e h => by cases h
  fresh := ⟨2, Nat.le_refl _, fun i _ => ⟨fun b h => h, fun b n c e h => h⟩⟩

theorem law_frame {P : Program} {f : FuncId} {ds : List D} {args : List Value} {W : World} (h : PCalls P f ds noHeap fun d _ => d = .val (.bool true)) (hA : RepAll P (ghOf W) ds args) :
    Calls P f args.toArray W fun e w' => e = .returned (.bool true) ∧ Below W.heap.size W w' :=
  (h.2 _ _ _ _ _ (rel_start P W) hA).mono fun e w' ⟨v, Γ', H', d, x1, x2, x3, x4, x5⟩ => by
    subst x5
    rw [rep_val x4] at x1
    exact ⟨x1, x3.below⟩

def strD (s : ByteArray) : D := .val (.string s)
theorem rep_strs {P : Program} {W : World} {e : TypeId} (he : szOf P e = 1) {a : Addr} {len cap : Nat} {ss : List ByteArray} (hl : len ≤ cap) (hm : cap ≤ maxLen) (hz : len ≤ ss.length) (hc : ∀ i, i < ss.length → W.cell? (a.add i) = some (.string (ss.getD i ByteArray.empty))) :
    Rep P (ghOf W) (.slice 0 e ((ss.take len).map strD)) (.slice (some a) len cap) := by
  have hlen : ((ss.take len).map strD).length = len := by simp; omega
  have hfl : flat ((ss.take len).map strD) = (ss.take len).map strD := by
    unfold flat
    generalize ss.take len = l
    induction l with
    | nil => rfl
    | cons x l ih => simp [strD, cellsD]; simpa [strD] using ih
  have hget : ∀ (i : Nat) d, (flat ((ss.take len).map strD))[i]? = some d → i < ss.length ∧ d = strD (ss.getD i ByteArray.empty) := by
    intro i d hd
    rw [hfl, List.getElem?_map] at hd
    cases hx : (ss.take len)[i]? with
    | none => simp [hx] at hd
    | some s =>
      simp [hx] at hd
      rw [List.getElem?_take] at hx
      split at hx
      · have hi := (List.getElem?_eq_some_iff.1 hx).1
        exact ⟨hi, by rw [← hd]; simp [List.getD, hx]⟩
      · cases hx
  have := Rep.slice (P := P) (Γ := ghOf W) 0 e ((ss.take len).map strD) (some a) a cap (fun i => .string (ss.getD i ByteArray.empty)) (by decide) (by rw [hlen]; exact hl) hm (.inr rfl) (fun h => absurd h (by decide))
    (fun d hd => by obtain ⟨s, _, rfl⟩ := List.mem_map.1 hd; rw [he]; rfl)
    (fun i d hd => ⟨hc i (hget i d hd).1, rfl⟩)
    (fun i d hd => by rw [(hget i d hd).2]; exact .val _)
  rwa [hlen] at this
theorem RepAll.none {P : Program} {Γ : Gh} : RepAll P Γ [] [] := ⟨rfl, fun i d v h => by cases h⟩
theorem RepAll.one {P : Program} {Γ : Gh} {d : D} {v : Value} {ds : List D} {vs : List Value} (h : Rep P Γ d v) (k : RepAll P Γ ds vs) : RepAll P Γ (d :: ds) (v :: vs) := by
  refine ⟨by simp [k.1], fun i d' v' hd hv => ?_⟩
  cases i with
  | zero => simp at hd hv; subst hd; subst hv; exact h
  | succ i => exact k.2 i d' v' (by simpa using hd) (by simpa using hv)
end Go.Pw
