/- A part of the proof: functions of the program, walked, or what operations come to. -/
import Derived.Test.YtnmpinbfddjhmaaPvN1
import Derived.Test.YtnmpinbfddjhmaaPvApp
/-! ### Slices that grow -/
namespace Go.Pv
@[simp] theorem noHeap_nx (G : Nat → Option (List D)) : (noHeap G).nx = 0 := rfl
@[simp] theorem okPart_by (c : UInt8) : okPart (byD c) = true := rfl
@[simp] theorem cellsD_by (c : UInt8) : cellsD (byD c) = [byD c] := rfl
@[simp] theorem oneD_by (c : UInt8) : oneD (byD c) = true := rfl
/-- A slice that grows: nil, or a row of the call's own. -/
def Grow (H : Heap) (d : D) (e : TypeId) (l : List D) : Prop := (l = [] ∧ d = .slice 1 0 []) ∨ ∃ i, i < H.nx ∧ d = .row i e 0 l.length ∧ H.get i = some (.row e l) ∧ l ≠ []
/-- It isn't object j. -/
def NotIt (d : D) (j : Nat) : Prop := ∀ e o n, d ≠ .row j e o n
theorem Grow.nil (H : Heap) (e : TypeId) : Grow H (.slice 1 0 []) e [] := .inl ⟨rfl, rfl⟩
theorem Grow.new {H : Heap} {d : D} {e : TypeId} {l : List D} (h : Grow H d e l) (o : PObj) : Grow (H.new o) d e l := by
  rcases h with h | ⟨i, h1, h2, h3⟩
  · exact .inl h
  · exact .inr ⟨i, by rw [Heap.new_nx]; omega, h2, by rw [Heap.new_ne _ _ (by omega)]; exact h3.1, h3.2⟩
theorem NotIt.new {H : Heap} {d : D} {e : TypeId} {l : List D} (h : Grow H d e l) : NotIt d H.nx := by
  rcases h with ⟨_, h⟩ | ⟨i, h1, h2, h3⟩
  · intro e o n q; rw [h] at q; cases q
  · intro e o n q; rw [h2] at q; cases q; omega
theorem grow_app {H : Heap} {d : D} {e b : Nat} {l m : List D} (h : Grow H d e l) (hm : m ≠ []) (hb : (l.length + m.length) * b ≤ 140737488355328) :
    ∃ d' H', appK e b d (some m) H = some (d', H') ∧ Grow H' d' e (l ++ m) ∧ H'.nx = H.nx + 1 ∧ H'.G = H.G ∧ ∀ j, j < H.nx → NotIt d j → H'.get j = H.get j ∧ NotIt d' j := by
  have he : m.isEmpty = false := by cases m with | nil => exact absurd rfl hm | cons a m => rfl
  rcases h with ⟨rfl, rfl⟩ | ⟨i, h1, rfl, h3, h0⟩
  · refine ⟨.row H.nx e 0 m.length, H.new (.row e m), ?_, ?_, rfl, rfl, ?_⟩
    · simp only [List.length_nil, Nat.zero_add] at hb
      simp [appK, isSliceD, he, onto, hb]
    · exact .inr ⟨H.nx, by simp, by simp, by simp, by simpa using hm⟩
    · intro j hj hn
      refine ⟨Heap.new_ne _ _ (by omega), fun e o n q => ?_⟩
      cases q; omega
  · refine ⟨.row H.nx e 0 (l.length + m.length), (H.put i none).new (.row e (l ++ m)), ?_, ?_, rfl, rfl, ?_⟩
    · simp [appK, isSliceD, he, onto, hb, h3]
    · exact .inr ⟨H.nx, by simp, by simp, Heap.new_same (H.put i none) _, by simp [h0]⟩
    · intro j hj hn
      have hji : j ≠ i := fun q => hn e 0 l.length (by rw [q])
      refine ⟨by rw [Heap.new_ne _ _ (by simp; omega), Heap.put_ne _ _ hji], fun e o n q => ?_⟩
      cases q; omega
/-- One element more, laid in a row of its own ahead of that. -/
theorem grow_one {H : Heap} {d : D} {e b : Nat} {l : List D} (x : D) (h : Grow H d e l) (hb : (l.length + 1) * b ≤ 140737488355328) :
    ∃ d' H', appK e b d (some [x]) (H.new (.row e [x])) = some (d', H') ∧ Grow H' d' e (l ++ [x]) ∧ H'.nx = H.nx + 2 ∧ H'.G = H.G ∧ ∀ j, j < H.nx → NotIt d j → H'.get j = H.get j ∧ NotIt d' j := by
  obtain ⟨d', H', h1, h2, h3, h4, h5⟩ := grow_app (h.new (.row e [x])) (m := [x]) (by simp) (b := b) (by simpa using hb)
  refine ⟨d', H', h1, h2, by rw [h3]; rfl, h4, fun j hj hn => ?_⟩
  obtain ⟨k1, k2⟩ := h5 j (by rw [Heap.new_nx]; omega) hn
  exact ⟨by rw [k1, Heap.new_ne _ _ (by omega)], k2⟩
theorem oK_app {H : Heap} {d : D} {e b : Nat} {l m : List D} {K : D × Heap → Prop} (h : Grow H d e l) (hm : m ≠ []) (hb : (l.length + m.length) * b ≤ 140737488355328)
    (hk : ∀ d' H', Grow H' d' e (l ++ m) → H'.nx = H.nx + 1 → H'.G = H.G → (∀ j, j < H.nx → NotIt d j → H'.get j = H.get j ∧ NotIt d' j) → K (d', H')) : oK (appK e b d (some m) H) K := by
  obtain ⟨d', H', h1, h2, h3, h4, h5⟩ := grow_app h hm hb
  rw [h1]
  exact hk d' H' h2 h3 h4 h5
theorem oK_grow {H : Heap} {d x : D} {e b : Nat} {l : List D} {K : D × Heap → Prop} (h : Grow H d e l) (hb : (l.length + 1) * b ≤ 140737488355328)
    (hk : ∀ d' H', Grow H' d' e (l ++ [x]) → H'.nx = H.nx + 2 → H'.G = H.G → (∀ j, j < H.nx → NotIt d j → H'.get j = H.get j ∧ NotIt d' j) → K (d', H')) : oK (appK e b d (some [x]) (H.new (.row e [x]))) K := by
  obtain ⟨d', H', h1, h2, h3, h4, h5⟩ := grow_one x h hb
  rw [h1]
  exact hk d' H' h2 h3 h4 h5
/-- What is handed back of it. -/
def frD (e : TypeId) (l : List D) : D := if l = [] then .slice 1 0 [] else .slice 0 e l
theorem Grow.fz {P : Program} {H : Heap} {d : D} {e : TypeId} {l l' : List D} {n : Nat} (h : Grow H d e l) (hm : mapO (fz P n H) l = some l') : fz P (n + 1) H d = some (frD e l') := by
  rcases h with ⟨rfl, rfl⟩ | ⟨i, h1, rfl, h3, h0⟩
  · cases hm; rfl
  · rw [Pv.fz]
    simp only [h3]
    rw [if_pos ⟨trivial, by omega⟩, List.drop_zero, List.take_length, hm]
    simp only [frD]
    have hl := mapO_len hm
    by_cases q : l' = []
    · exact absurd (List.eq_nil_of_length_eq_zero (by rw [← hl, q]; rfl)) h0
    · rw [if_neg q, if_neg (fun q2 => q (List.eq_nil_of_length_eq_zero (by omega)))]
/-! A row that is filled from its beginning on. -/
def fill {α : Type} (L : List α) (k : Nat) (z : α) : List α := L.take k ++ List.replicate (L.length - k) z
theorem fill_zero {α : Type} (L : List α) (z : α) : fill L 0 z = List.replicate L.length z := by simp [fill]
theorem fill_all {α : Type} (L : List α) (z : α) : fill L L.length z = L := by simp [fill]
@[simp] theorem fill_len {α : Type} (L : List α) (k : Nat) (z : α) (h : k ≤ L.length) : (fill L k z).length = L.length := by simp [fill]; omega
theorem fill_get {α : Type} (L : List α) (k : Nat) (z : α) (h : k < L.length) : (fill L k z)[k]? = some z := by
  rw [fill, List.getElem?_append_right (by simp; omega)]
  have : k - (L.take k).length = 0 := by simp; omega
  rw [this, List.getElem?_replicate, if_pos (by omega)]
theorem fill_set {α : Type} (L : List α) (k : Nat) (z x : α) (h : L[k]? = some x) : (fill L k z).set k x = fill L (k + 1) z := by
  have hk : k < L.length := (List.getElem?_eq_some_iff.1 h).1
  have h1 : (L.take k).length = k := by simp; omega
  rw [fill, fill, List.set_append_right _ _ (by omega), h1, Nat.sub_self, List.take_add_one, h]
  obtain ⟨m, hm⟩ : ∃ m, L.length - k = m + 1 := ⟨L.length - k - 1, by omega⟩
  rw [hm, show L.length - (k + 1) = m by omega, List.replicate_succ]
  simp
@[simp] theorem setIn_val (v : Value) (d : D) : setIn (.val v) 0 [d] = d := rfl
theorem fz_vals {P : Program} {α : Type} (f : α → Value) (n : Nat) (H : Heap) : ∀ l : List α, mapO (fz P (n + 1) H) (l.map fun x => D.val (f x)) = some (l.map fun x => D.val (f x))
  | [] => rfl
  | a :: l => by rw [List.map_cons, mapO, fz_vals f n H l]; rfl
end Go.Pv
