/- Small facts for the walks. -/
import Derived.Test.YtmaajijhfpdefaaPwFreeze
namespace Go.Pw
/-! ### An array all of whose elements are given -/
theorem updD_app : ∀ (ds a b : List D), ds.length ≤ b.length → updD (a ++ b) a.length ds = a ++ (ds ++ b.drop ds.length)
  | [], a, b, _ => by simp [updD]
  | d :: ds, a, [], h => by simp at h
  | d :: ds, a, x :: b, h => by
    have e : (a ++ x :: b).set a.length d = (a ++ [d]) ++ b := by simp
    have := updD_app ds (a ++ [d]) b (by simpa using h)
    rw [updD, e]
    simp only [List.length_append, List.length_singleton] at this
    rw [this]
    simp
def fullFrom (sz : Nat) : Nat → List (Nat × D) → Bool
  | _, [] => true
  | k, (i, d) :: r => i == k && (okPart d && ((cellsD d).length == sz && fullFrom sz (k + 1) r))
theorem fillD_from (sz : Nat) : ∀ (parts : List (Nat × D)) (k : Nat) (a b : List D), a.length = k * sz → b.length = parts.length * sz → fullFrom sz k parts = true →
    fillD (fun i => some (i * sz, sz)) (a ++ b) parts = some (a ++ flat (parts.map (·.2)))
  | [], k, a, b, ha, hb, h => by
    simp at hb; subst hb; simp [fillD, flat]
  | (i, d) :: r, k, a, b, ha, hb, h => by
    simp only [fullFrom, Bool.and_eq_true, beq_iff_eq] at h
    obtain ⟨rfl, h1, h2, h3⟩ := h
    have hle : sz ≤ b.length := by rw [hb, List.length_cons, Nat.add_mul]; omega
    have hc : ¬ ((cellsD d).length ≠ sz ∨ i * sz + (cellsD d).length > (a ++ b).length ∨ okPart d = false) := by
      rw [List.length_append, h2, ha, h1]; simp; omega
    have hu : updD (a ++ b) (i * sz) (cellsD d) = (a ++ cellsD d) ++ b.drop sz := by
      rw [← ha, updD_app _ _ _ (by omega), h2, List.append_assoc]
    simp only [fillD]
    rw [if_neg hc, hu, fillD_from sz r (i + 1) _ _ (by rw [List.length_append, ha, h2, Nat.add_mul]; omega) (by rw [List.length_drop, hb, List.length_cons, Nat.add_mul]; omega) h3]
    simp [flat]
theorem fillD_full {sz : Nat} {z : List D} {parts : List (Nat × D)} (hz : z.length = parts.length * sz) (h : fullFrom sz 0 parts = true) : fillD (fun i => some (i * sz, sz)) z parts = some (flat (parts.map (·.2))) := by
  simpa using fillD_from sz parts 0 [] z (by simp) hz h
@[simp] theorem flat_all (l : List D) : (flat l).all oneD = l.all okPart := by
  induction l with
  | nil => rfl
  | cons d l ih =>
    rw [flat_cons, List.all_append, ih, List.all_cons]
    congr 1
    cases d <;> simp [cellsD, okPart]
@[simp] theorem flat_len (l : List D) : (flat l).length = (l.map fun d => (cellsD d).length).sum := by
  induction l with
  | nil => rfl
  | cons d l ih => rw [flat_cons, List.length_append, ih]; simp
@[simp] theorem cellsD_tup (l : List D) : cellsD (.tup l) = [.tup l] := rfl
theorem updD_all {cs ds : List D} (h : cs.length = ds.length) : updD cs 0 ds = ds := by
  have := updD_app ds [] cs (by omega)
  simp only [List.length_nil, List.nil_append] at this
  rw [this, ← h, List.drop_length, List.append_nil]
theorem updD_full {cs ds : List D} (h : decide (cs.length = ds.length) = true) : updD cs 0 ds = ds := updD_all (by simpa using h)
@[simp] theorem put_put (H : Heap) (i : Nat) (x y : Option PObj) : (H.put i x).put i y = H.put i y := by
  funext j
  by_cases e : j = i
  · subst e; simp
  · simp [Heap.put_ne _ _ e]
theorem put_put_none {H : Heap} {i : Nat} (h : H i = none) (x : Option PObj) : (H.put i x).put i none = H := by
  funext j
  by_cases e : j = i
  · subst e; simp [h]
  · simp [Heap.put_ne _ _ e]
theorem fillD_all {sz : Nat} {z : List D} {parts : List (Nat × D)} (h : (decide (z.length = parts.length * sz) && fullFrom sz 0 parts) = true) : fillD (fun i => some (i * sz, sz)) z parts = some (flat (parts.map (·.2))) := by
  simp only [Bool.and_eq_true, decide_eq_true_eq] at h
  exact fillD_full h.1 h.2
/-! ### Heaps that hold at least what another one holds -/
def Ext (H H' : Heap) : Prop := ∀ i o, H i = some o → H' i = some o
theorem Ext.refl (H : Heap) : Ext H H := fun _ _ h => h
theorem Ext.trans {H H' H'' : Heap} (h : Ext H H') (k : Ext H' H'') : Ext H H'' := fun i o q => k i o (h i o q)
theorem Ext.put {H H' : Heap} {i : Nat} (h : Ext H H') (hi : H i = none) (o : Option PObj) : Ext H (H'.put i o) := fun j p hj => by
  by_cases e : j = i
  · subst e; rw [hi] at hj; cases hj
  · rw [Heap.put_ne _ _ e]; exact h j p hj
theorem Ext.none {H H' : Heap} {i : Nat} (h : Ext H H') (hi : H' i = none) : H i = none := by
  cases hx : H i with
  | none => rfl
  | some o => rw [h i o hx] at hi; cases hi
theorem Ext.put' {H H' : Heap} {i : Nat} (h : Ext H H') (hi : H' i = Option.none) (o : Option PObj) : Ext H (H'.put i o) := h.put (Ext.none h hi) o
theorem Ext.both {H H' : Heap} (h : Ext H H') (i : Nat) (x : Option PObj) : Ext (H.put i x) (H'.put i x) := fun j o hj => by
  by_cases e : j = i
  · subst e; simpa using hj
  · rw [Heap.put_ne _ _ e] at hj ⊢; exact h j o hj
theorem put_none {H : Heap} {i j : Nat} {o : PObj} (h : (H.put i (some o)) j = none) : j ≠ i ∧ H j = none := by
  by_cases e : j = i
  · subst e; simp at h
  · rw [Heap.put_ne _ _ e] at h; exact ⟨e, h⟩
theorem put_at {H : Heap} {i j : Nat} {o : Option PObj} {p : PObj} (h : j ≠ i) (hj : H j = some p) : (H.put i o) j = some p := by rw [Heap.put_ne _ _ h]; exact hj
/-- A row that was written to is handed back; it is not written to any more. -/
theorem freeze_ret {P : Program} {i : Nat} {e : TypeId} {n : Nat} {l : List D} {H Hs : Heap} {R : D → Heap → Prop} (hx : Ext H Hs) (hn : Hs i = none) (hl : l.length = n) (hs : ∀ d ∈ l, (cellsD d).length = szOf P e) (hR : R (.slice 0 e l) H) :
    ∃ H' : Heap, (∀ j o, H' j = some o → (Hs.put i (some (.cells (flat l)))) j = some o) ∧ ∃ i' cs d', H' i' = some (.cells cs) ∧ FrzD P i' cs (.arr i e 0 n) d' ∧ R d' (H'.put i' none) := by
  refine ⟨H.put i (some (.cells (flat l))), Ext.both hx i _, i, flat l, .slice 0 e l, Heap.put_same _ _ _, FrzD.arr e 0 n l hl hs ?_, ?_⟩
  · rw [List.drop_zero, List.take_of_length_le]
    rw [flat_length hs, hl]
    exact Nat.le_refl _
  · rw [put_put_none (hx.none hn)]; exact hR
@[simp] theorem okPart_byD (b : UInt8) : okPart (byD b) = true := rfl
@[simp] theorem oneD_byD (b : UInt8) : oneD (byD b) = true := rfl
@[simp] theorem cellsD_byD (b : UInt8) : cellsD (byD b) = [byD b] := rfl
@[simp] theorem toByteD_byD (b : UInt8) : toByteD (byD b) = b := by simp [toByteD, byD]
@[simp] theorem isByteD_byD (b : UInt8) : isByteD (byD b) = true := rfl
@[simp] theorem toByte_comp : toByteD ∘ byD = id := by funext b; simp
@[simp] theorem isByte_take (l : List UInt8) (n : Nat) : ∀ d, d ∈ (l.take n).map byD → isByteD d = true := fun d hd => by
  obtain ⟨b, _, rfl⟩ := List.mem_map.1 hd; rfl
@[simp ↓] theorem isByte_map (l : List UInt8) : (∀ d, d ∈ l.map byD → isByteD d = true) = True := eq_true fun d hd => by
  obtain ⟨b, _, rfl⟩ := List.mem_map.1 hd; rfl
theorem wrap64 (n : Int) (h1 : -9223372036854775808 ≤ n) (h2 : n ≤ 9223372036854775807) : IntKind.i64.wrap n = n := by
  simp [IntKind.wrap, IntKind.bits, IntKind.signed]; omega
theorem wrapSucc (k : Nat) (h : k < 9223372036854775807) : IntKind.i64.wrap ((k : Int) + 1) = ((k + 1 : Nat) : Int) := by
  rw [wrap64 _ (by omega) (by omega)]; omega
theorem wrap8 (n : Int) (h1 : 0 ≤ n) (h2 : n ≤ 255) : IntKind.u8.wrap n = n := by
  simp [IntKind.wrap, IntKind.bits, IntKind.signed]; omega
end Go.Pw
