/- A part of the proof: functions of the program, walked, or what operations come to. -/
import Derived.Test.YtaglagcanhiemaaDoorPvArgs2
import Derived.Test.YtaglagcanhiemaaDoorPvArgs
import Derived.SizedLaws
namespace Go.Pv
open Go.RowKit
open Go.ChangeShapes (open_ints)
/-- An argument of type []byte. -/
theorem bytes_in {H : Type} {enc : TypeId × Value → H} {P : Program} {W : World} {held : Bool} {sp : Nat → Bool} {b0 : Nat} {t e : TypeId} {a : Option Addr} {len cap : Nat} {d : DataW H} {ps : List MemPlace} (ht : P.underlying t = some (.slice e)) (he : P.underlying e = some (.int .u8)) (hc : P.cellsOf e = 1) (hz : szOf P e = 1) (hb : 1 ≤ P.bytesOf e)
    {ts : List TypeId} {ds : List (DataW H)} {j : Nat} (hsz : (DataW.weightsEach P ts ds).all (· ≤ reachBytes) = true) (hj : ts[j]? = some t) (hd : ds[j]? = some d)
    (h : DataW.Trod enc P W b0 sp held t (.slice a len cap) d ps) : ∃ (g e' : Nat) (l : List UInt8), Rep P (ghOf W) (.slice g e' (l.map byD)) (.slice a len cap) ∧ (e' = e ∨ l = []) ∧ l.length ≤ 140737488355328 := by
  obtain ⟨fuel, hf⟩ := h
  rcases open_ints ht he hc hf with ⟨hcs, _⟩ | ⟨a', len', cap', ss, hcs, _, h1, h2, h3, hx, h5, h6⟩
  · cases hcs
    exact ⟨1, e, [], .nil e, .inl rfl, by simp⟩
  · cases hcs
    simp only [Prod.mk.injEq] at hx
    have hw : ∀ n ∈ ss.take len, 0 ≤ n ∧ n < 256 := fun n hn => by
      have := h6 n (List.mem_of_mem_take hn)
      simp only [Lit.wf, Bool.and_eq_true, decide_eq_true_eq] at this
      have e1 : IntKind.u8.min = 0 := by decide
      have e2 : IntKind.u8.max = 255 := by decide
      omega
    have hmap : ((ss.take len).map fun n => UInt8.ofNat n.toNat).map byD = (ss.take len).map fun s => .val (.int .u8 s) := by
      rw [List.map_map]
      refine List.map_congr_left fun n hn => ?_
      have := hw n hn
      simp only [Function.comp, byD]
      congr 2
      simp; omega
    refine ⟨0, e, (ss.take len).map fun n => UInt8.ofNat n.toNat, ?_, .inl rfl, ?_⟩
    · rw [hmap]
      exact rep_ints hz h1 h2 (by rw [h3]; split <;> omega) h5
    · have hs := sized_slice hsz hj (by rw [hd, hx.1]) ht
      have hr := reachBytes_lt
      have hlen : len ≤ ss.length := by rw [h3]; split <;> omega
      simp only [List.length_map, Go.ChangeShapes.lits, List.length_take, List.length_drop] at hs ⊢
      have h8 : (min len ss.length + (ss.length - len)) * 1 ≤ (min len ss.length + (ss.length - len)) * P.bytesOf e := Nat.mul_le_mul_left _ hb
      omega
end Go.Pv
