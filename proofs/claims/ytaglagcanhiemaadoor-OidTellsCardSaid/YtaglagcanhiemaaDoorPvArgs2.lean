/- A part of the proof: functions of the program, walked, or what operations come to. -/
import Derived.Test.YtaglagcanhiemaaDoorPvUse
import Derived.ChangeSlices
namespace Go.Pv
open Go.RowKit
open Go.ChangeShapes (open_ints)
/-- A row of ints in memory, as a value. -/
theorem rep_ints {P : Program} {W : World} {e : TypeId} (he : szOf P e = 1) {a : Addr} {len cap : Nat} {ss : List Int} {k : IntKind} (hl : len ≤ cap) (hm : cap ≤ maxLen) (hz : len ≤ ss.length) (hc : ∀ i, i < ss.length → W.cell? (a.add i) = some (.int k (ss.getD i 0))) :
    Rep P (ghOf W) (.slice 0 e ((ss.take len).map fun s => .val (.int k s))) (.slice (some a) len cap) := by
  have hlen : ((ss.take len).map fun s => D.val (.int k s)).length = len := by simp; omega
  have hfl : flat ((ss.take len).map fun s => D.val (.int k s)) = (ss.take len).map fun s => D.val (.int k s) := by
    unfold flat
    generalize ss.take len = l
    induction l with
    | nil => rfl
    | cons x l ih => simp [cellsD]; simpa using ih
  have hget : ∀ (i : Nat) d, (flat ((ss.take len).map fun s => D.val (.int k s)))[i]? = some d → i < ss.length ∧ d = .val (.int k (ss.getD i 0)) := by
    intro i d hd
    rw [hfl, List.getElem?_map] at hd
    cases hx : (ss.take len)[i]? with
    | none => simp [hx] at hd
    | some s =>
      simp [hx] at hd
      rw [List.getElem?_take] at hx
      split at hx
      · have hi := (List.getElem?_eq_some_iff.1 hx).1
        exact ⟨hi, by rw [← hd]; simp [List.getD, hx]⟩
      · cases hx
  have := Rep.slice (P := P) (Γ := ghOf W) 0 e ((ss.take len).map fun s => .val (.int k s)) (some a) a cap (fun i => .int k (ss.getD i 0)) (by decide) (fun h => absurd h (by decide)) (fun h => absurd h (by decide)) (by rw [hlen]; exact hl) hm (.inr rfl)
    (fun d hd => by obtain ⟨s, _, rfl⟩ := List.mem_map.1 hd; rw [he]; rfl)
    (fun i d hd => ⟨hc i (hget i d hd).1, rfl⟩)
    (fun i d hd => by rw [(hget i d hd).2]; exact .val _)
  rwa [hlen] at this
/-- An argument of type []int. -/
theorem ints_in {H : Type} {enc : TypeId × Value → H} {P : Program} {W : World} {held : Bool} {sp : Nat → Bool} {b0 : Nat} {t e : TypeId} {a : Option Addr} {len cap : Nat} {d : DataW H} {ps : List MemPlace} (ht : P.underlying t = some (.slice e)) {k : IntKind} (he : P.underlying e = some (.int k)) (hc : P.cellsOf e = 1) (hz : szOf P e = 1)
    (h : DataW.Trod enc P W b0 sp held t (.slice a len cap) d ps) : ∃ (g : Nat) (l : List Int), Rep P (ghOf W) (.slice g e (l.map fun s => .val (.int k s))) (.slice a len cap) := by
  obtain ⟨fuel, hf⟩ := h
  rcases open_ints ht he hc hf with ⟨hcs, _⟩ | ⟨a', len', cap', ss, hcs, _, h1, h2, h3, _, h5, h6⟩
  · cases hcs
    exact ⟨1, [], .nil e⟩
  · cases hcs
    refine ⟨0, ss.take len, rep_ints hz h1 h2 ?_ h5⟩
    rw [h3]; split <;> omega
end Go.Pv
