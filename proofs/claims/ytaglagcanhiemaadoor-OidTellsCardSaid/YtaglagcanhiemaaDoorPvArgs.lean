/- A part of the proof: functions of the program, walked, or what operations come to. -/
import Derived.Test.YtaglagcanhiemaaDoorPvUse
import Derived.SliceStrings
namespace Go.Pv
open Go.RowKit
open Go.ChangeShapes (open_strings)
/-- A row of strings in memory, as a value. -/
theorem rep_strs {P : Program} {W : World} {e : TypeId} (he : szOf P e = 1) {a : Addr} {len cap : Nat} {ss : List ByteArray} (hl : len ≤ cap) (hm : cap ≤ maxLen) (hz : len ≤ ss.length) (hc : ∀ i, i < ss.length → W.cell? (a.add i) = some (.string (ss.getD i ByteArray.empty))) :
    Rep P (ghOf W) (.slice 0 e ((ss.take len).map fun s => .val (.string s))) (.slice (some a) len cap) := by
  have hlen : ((ss.take len).map fun s => D.val (.string s)).length = len := by simp; omega
  have hfl : flat ((ss.take len).map fun s => D.val (.string s)) = (ss.take len).map fun s => D.val (.string s) := by
    unfold flat
    generalize ss.take len = l
    induction l with
    | nil => rfl
    | cons x l ih => simp [cellsD]; simpa using ih
  have hget : ∀ (i : Nat) d, (flat ((ss.take len).map fun s => D.val (.string s)))[i]? = some d → i < ss.length ∧ d = .val (.string (ss.getD i ByteArray.empty)) := by
    intro i d hd
    rw [hfl, List.getElem?_map] at hd
    cases hx : (ss.take len)[i]? with
    | none => simp [hx] at hd
    | some s =>
      simp [hx] at hd
      rw [List.getElem?_take] at hx
      split at hx
      · have hi := (List.getElem?_eq_some_iff.1 hx).1
        exact ⟨hi, by rw [← hd]; simp [List.getD, hx]⟩
      · cases hx
  have := Rep.slice (P := P) (Γ := ghOf W) 0 e ((ss.take len).map fun s => .val (.string s)) (some a) a cap (fun i => .string (ss.getD i ByteArray.empty)) (by decide) (fun h => absurd h (by decide)) (fun h => absurd h (by decide)) (by rw [hlen]; exact hl) hm (.inr rfl)
    (fun d hd => by obtain ⟨s, _, rfl⟩ := List.mem_map.1 hd; rw [he]; rfl)
    (fun i d hd => ⟨hc i (hget i d hd).1, rfl⟩)
    (fun i d hd => by rw [(hget i d hd).2]; exact .val _)
  rwa [hlen] at this
/-- An argument of type []string. -/
theorem strs_in {H : Type} {enc : TypeId × Value → H} {P : Program} {W : World} {held : Bool} {sp : Nat → Bool} {b0 : Nat} {t e : TypeId} {a : Option Addr} {len cap : Nat} {d : DataW H} {ps : List MemPlace} (ht : P.underlying t = some (.slice e)) (he : P.underlying e = some .string) (hc : P.cellsOf e = 1) (hz : szOf P e = 1)
    (h : DataW.Trod enc P W b0 sp held t (.slice a len cap) d ps) : ∃ (g : Nat) (l : List ByteArray), Rep P (ghOf W) (.slice g e (l.map fun s => .val (.string s))) (.slice a len cap) ∧ ∀ s ∈ l, s.size ≤ maxLen := by
  obtain ⟨fuel, hf⟩ := h
  rcases open_strings ht he hc hf with ⟨hcs, _⟩ | ⟨a', len', cap', ss, hcs, _, h1, h2, h3, _, h5, h6⟩
  · cases hcs
    exact ⟨1, [], .nil e, fun s hs => by cases hs⟩
  · cases hcs
    refine ⟨0, ss.take len, rep_strs hz h1 h2 ?_ h5, fun s hs => h6 s (List.mem_of_mem_take hs)⟩
    rw [h3]; split <;> omega
end Go.Pv
