/- A part of the proof: functions of the program, walked, or what operations come to. -/
import Derived.Test.YtaglagcanhiemaaDoorPvUse
import Derived.SliceStrings
import Derived.SizedLaws
namespace Go.Pv
open Go.RowKit
open Go.ChangeShapes (open_strings)
/-- A row of strings in memory, as a value. -/
theorem rep_strs {P : Program} {W : World} {e : TypeId} (he : szOf P e = 1) {a : Addr} {len cap : Nat} {ss : List ByteArray} (hl : len ≤ cap) (hm : cap ≤ maxLen) (hz : len ≤ ss.length) (hc : ∀ i, i < ss.length → W.cell? (a.add i) = some (.string (ss.getD i ByteArray.empty))) :
    Rep P (ghOf W) (.slice 0 e ((ss.take len).map fun s => .val (.string s))) (.slice (some a) len cap) := by
  have hlen : ((ss.take len).map fun s => D.val (.string s)).length = len := by simp; omega
  have hfl : flat ((ss.take len).map fun s => D.val (.string s)) = (ss.take len).map fun s => D.val (.string s) := by
    unfold flat
    generalize ss.take len = l
    induction l with
    | nil => rfl
    | cons x l ih => simp [cellsD]; simpa using ih
  have hget : ∀ (i : Nat) d, (flat ((ss.take len).map fun s => D.val (.string s)))[i]? = some d → i < ss.length ∧ d = .val (.string (ss.getD i ByteArray.empty)) := by
    intro i d hd
    rw [hfl, List.getElem?_map] at hd
    cases hx : (ss.take len)[i]? with
    | none => simp [hx] at hd
    | some s =>
      simp [hx] at hd
      rw [List.getElem?_take] at hx
      split at hx
      · have hi := (List.getElem?_eq_some_iff.1 hx).1
        exact ⟨hi, by rw [← hd]; simp [List.getD, hx]⟩
      · cases hx
  have := Rep.slice (P := P) (Γ := ghOf W) 0 e ((ss.take len).map fun s => .val (.string s)) (some a) a cap (fun i => .string (ss.getD i ByteArray.empty)) (by decide) (fun h => absurd h (by decide)) (fun h => absurd h (by decide)) (by rw [hlen]; exact hl) hm (.inr rfl)
    (fun d hd => by obtain ⟨s, _, rfl⟩ := List.mem_map.1 hd; rw [he]; rfl)
    (fun i d hd => ⟨hc i (hget i d hd).1, rfl⟩)
    (fun i d hd => by rw [(hget i d hd).2]; exact .val _)
  rwa [hlen] at this
/-- An argument of type []string. -/
theorem strs_in {H : Type} {enc : TypeId × Value → H} {P : Program} {W : World} {held : Bool} {sp : Nat → Bool} {b0 : Nat} {t e : TypeId} {a : Option Addr} {len cap : Nat} {d : DataW H} {ps : List MemPlace} (ht : P.underlying t = some (.slice e)) (he : P.underlying e = some .string) (hc : P.cellsOf e = 1) (hz : szOf P e = 1)
    (h : DataW.Trod enc P W b0 sp held t (.slice a len cap) d ps) : ∃ (g : Nat) (l : List ByteArray), Rep P (ghOf W) (.slice g e (l.map fun s => .val (.string s))) (.slice a len cap) ∧ ∀ s ∈ l, s.size ≤ maxLen := by
  obtain ⟨fuel, hf⟩ := h
  rcases open_strings ht he hc hf with ⟨hcs, _⟩ | ⟨a', len', cap', ss, hcs, _, h1, h2, h3, _, h5, h6⟩
  · cases hcs
    exact ⟨1, [], .nil e, fun s hs => by cases hs⟩
  · cases hcs
    refine ⟨0, ss.take len, rep_strs hz h1 h2 ?_ h5, fun s hs => h6 s (List.mem_of_mem_take hs)⟩
    rw [h3]; split <;> omega
end Go.Pv
namespace Go.Pv
open Go.RowKit
open Go.ChangeShapes (open_strings)
/-- An argument of type []string, with bounds of what it holds. -/
theorem texts_in {H : Type} {enc : TypeId × Value → H} {P : Program} {W : World} {held : Bool} {sp : Nat → Bool} {b0 : Nat} {t e : TypeId} {a : Option Addr} {len cap : Nat} {d : DataW H} {ps : List MemPlace} (ht : P.underlying t = some (.slice e)) (he : P.underlying e = some .string) (hc : P.cellsOf e = 1) (hz : szOf P e = 1) (hb : 1 ≤ P.bytesOf e)
    {ts : List TypeId} {ds : List (DataW H)} {j : Nat} (hsz : (DataW.weightsEach P ts ds).all (· ≤ reachBytes) = true) (hj : ts[j]? = some t) (hd : ds[j]? = some d)
    (h : DataW.Trod enc P W b0 sp held t (.slice a len cap) d ps) : ∃ (g e' : Nat) (l : List (List UInt8)), Rep P (ghOf W) (.slice g e' (l.map fun s => .val (.string ⟨s.toArray⟩))) (.slice a len cap) ∧ (e' = e ∨ l = []) ∧ l.length ≤ 140737488355328 ∧ ∀ s ∈ l, s.length ≤ 140737488355328 := by
  obtain ⟨fuel, hf⟩ := h
  rcases open_strings ht he hc hf with ⟨hcs, _⟩ | ⟨a', len', cap', ss, hcs, _, h1, h2, h3, hx, h5, h6⟩
  · cases hcs
    exact ⟨1, e, [], .nil e, .inl rfl, by simp, fun s hs => by cases hs⟩
  · cases hcs
    simp only [Prod.mk.injEq] at hx
    have hr := reachBytes_lt
    have hlen : len ≤ ss.length := by rw [h3]; split <;> omega
    have hmap : ((ss.take len).map fun s => s.data.toList).map (fun s : List UInt8 => D.val (.string ⟨s.toArray⟩)) = (ss.take len).map fun s => .val (.string s) := by
      rw [List.map_map]
      exact List.map_congr_left fun s hs => by simp
    refine ⟨0, e, (ss.take len).map fun s => s.data.toList, ?_, .inl rfl, ?_, ?_⟩
    · rw [hmap]
      exact rep_strs hz h1 h2 (by rw [h3]; split <;> omega) h5
    · have hs := sized_slice hsz hj (by rw [hd, hx.1]) ht
      simp only [List.length_map, Go.ChangeShapes.strs, List.length_take, List.length_drop] at hs ⊢
      have h8 : (min len ss.length + (ss.length - len)) * 1 ≤ (min len ss.length + (ss.length - len)) * P.bytesOf e := Nat.mul_le_mul_left _ hb
      omega
    · intro s hs
      obtain ⟨x, hx2, rfl⟩ := List.mem_map.1 hs
      have hw : x.data.toList.length ∈ DataW.weightsAll P e (Go.ChangeShapes.strs (H := H) (ss.take len)) := by
        generalize ss.take len = l at hx2
        induction l with
        | nil => cases hx2
        | cons y l ih =>
          simp only [Go.ChangeShapes.strs, List.map_cons, DataW.weightsAll, DataW.weights, List.mem_append]
          rcases List.mem_cons.1 hx2 with rfl | hx2
          · left; simp
          · right; exact ih hx2
      have hall := List.all_eq_true.1 hsz _ (DataW.weights_mem_each (H := H) hj (by rw [hd, hx.1]) x.data.toList.length (by simp only [DataW.weights, ht]; exact List.mem_cons_of_mem _ (List.mem_append_left _ hw)))
      simp only [decide_eq_true_eq] at hall
      omega
end Go.Pv
