/- A part of the proof: functions of the program, walked, or what operations come to. -/
import Derived.Test.YtpedcchnhjffpaaGreatPvFz
import Derived.Sort.Row
import Derived.Sort.Grow
namespace Go.Pv
open Go.RowKit
/-! ### A row that the library has put into another order -/
section
variable {P : Program} {base : Prot} {w0 : World} {Γ : Gh} {H : Heap} {w : World}
theorem size_putCells {α : Type} [Inhabited α] (enc : α → Value) (off : Nat) (d : Array α) (c : Array Value) : (Sort.putCells enc off d c).size = c.size := by simp [Sort.putCells]
theorem get_putCells {α : Type} [Inhabited α] (enc : α → Value) (off : Nat) (d : Array α) (c : Array Value) (j : Nat) (h1 : j < d.size) (h2 : off + j < c.size) : (Sort.putCells enc off d c)[off + j]? = some (enc d[j]!) := by
  unfold Sort.putCells
  rw [Array.getElem?_mapIdx]
  have : c[off + j]? = some c[off + j] := Array.getElem?_eq_getElem h2
  rw [this, Option.map_some, if_pos ⟨by omega, by omega⟩, show off + j - off = j by omega]
theorem flat_ones (l : List D) (h : ∀ d ∈ l, cellsD d = [d]) : flat l = l := by
  induction l with
  | nil => rfl
  | cons a l ih => rw [flat_cons, h a (by simp), ih (fun d hd => h d (by simp [hd]))]; rfl
/-- The cells of a row of one-cell values, as the library's contracts see them. -/
theorem holds_row {α : Type} [Inhabited α] (enc : α → Value) (h : Rel P base w0 Γ H w) {i : Nat} {x : Gi} {e : TypeId} {l : List α} {m : List D} (hi : H.get i = some (.row e (l.map (fun a => D.val (enc a)) ++ m))) (hx : Γ.g i = some x) (hm : ∀ d ∈ m, cellsD d = [d]) : Sort.Holds enc w x.b x.o l.toArray := by
  obtain ⟨_, _, k1, k2, k3, k4, vs, T, fr, x3, x4, ⟨x51, x52, x5⟩, x6⟩ := h.objAt hi hx
  have hfl : flat (l.map (fun a => D.val (enc a)) ++ m) = l.map (fun a => D.val (enc a)) ++ m := flat_ones _ fun d hd => by
    rcases List.mem_append.1 hd with hd | hd
    · obtain ⟨a, _, rfl⟩ := List.mem_map.1 hd; rfl
    · exact hm d hd
  intro j hj
  have hj' : j < l.length := by simpa using hj
  obtain ⟨v, hv, hr, ho⟩ := x6 j (.val (enc l[j])) (by rw [hfl, List.getElem?_append_left (by simpa using hj'), List.getElem?_map, List.getElem?_eq_getElem hj']; rfl)
  obtain rfl := rep_val hr
  have hlt : x.o + j < vs.size := (Array.getElem?_eq_some_iff.1 hv).1
  have hget : l.toArray[j]! = l[j] := by simp [hj']
  refine ⟨by rw [hget, cell_of_row w x.b _ vs T fr x3]; exact hv, ?_⟩
  unfold World.frozen?
  rw [x3]
  simp only [Bool.and_eq_false_iff, decide_eq_false_iff_not]
  rcases x5 with rfl | x5
  · right; simp
  · left; omega
theorem rel_putRow {α : Type} [Inhabited α] (enc : α → Value) (h1 : ∀ a, (enc a).oneCell' = true) (h : Rel P base w0 Γ H w) {i : Nat} {x : Gi} {e : TypeId} {l l' : List α} (he : szOf P e = 1) (hi : H.get i = some (.row e (l.map (fun a => D.val (enc a))))) (hx : Γ.g i = some x) (hl : l'.length = l.length) (n : Nat) (os : Array Obj) :
    Rel P base w0 Γ (H.put i (some (.row e (l'.map (fun a => D.val (enc a)))))) (Sort.grow (Sort.putRow enc (Sort.ahead w n) x.b x.o l'.toArray) os) := by
  obtain ⟨hb, hlt, k1, k2, k3, k4, vs, T, fr, x3, x4, ⟨x51, x52, x5⟩, x6⟩ := h.objAt hi hx
  have hne : ∀ k, k < w.heap.size → k ≠ x.b → (Sort.grow (Sort.putRow enc (Sort.ahead w n) x.b x.o l'.toArray) os).heap[k]? = w.heap[k]? := fun k hk hkb => by
    show (((w.heap.modify x.b _) ++ os) : Array Obj)[k]? = _
    rw [Array.getElem?_append_left (by simpa using hk), Array.getElem?_modify, if_neg (fun q => hkb q.symm)]
  have hat : (Sort.grow (Sort.putRow enc (Sort.ahead w n) x.b x.o l'.toArray) os).heap[x.b]? = some (.cells (Sort.putCells enc x.o l'.toArray vs) T fr) := by
    show (((w.heap.modify x.b _) ++ os) : Array Obj)[x.b]? = _
    rw [Array.getElem?_append_left (by simpa using hlt), Array.getElem?_modify, if_pos rfl, x3]
    rfl
  have hsz : w.heap.size ≤ (Sort.grow (Sort.putRow enc (Sort.ahead w n) x.b x.o l'.toArray) os).heap.size := by
    show _ ≤ (((w.heap.modify x.b _) ++ os) : Array Obj).size
    simp
  refine h.setObj hi hx (h.below.trans ⟨rfl, rfl, rfl, hsz, fun k hk => hne k (h.size k hk) (fun q => hb (q ▸ hk))⟩) hsz (fun k hk hkb => hne k hk hkb) ?_
  rw [hat]
  have hfl : ∀ m : List α, flat (m.map (fun a => D.val (enc a))) = m.map (fun a => D.val (enc a)) := fun m => flat_ones _ fun d hd => by obtain ⟨a, _, rfl⟩ := List.mem_map.1 hd; rfl
  refine ⟨k1, k2, by simpa [hl] using k3, fun d hd => by obtain ⟨a, _, rfl⟩ := List.mem_map.1 hd; rw [he]; rfl, _, T, fr, rfl, by rw [size_putCells]; exact x4, ⟨x51, x52, by rw [size_putCells]; exact x5⟩, fun j d hj => ?_⟩
  rw [hfl, List.getElem?_map] at hj
  obtain ⟨a, ha, rfl⟩ := Option.map_eq_some_iff.1 hj
  have hjl : j < l'.length := (List.getElem?_eq_some_iff.1 ha).1
  have hcap : x.o + j < vs.size := by
    rw [x4, he]
    simp at k3
    omega
  refine ⟨enc a, ?_, .val _, h1 a⟩
  rw [get_putCells enc x.o l'.toArray vs j (by simpa using hjl) hcap]
  have : l'.toArray[j]! = a := by simp [List.getElem?_eq_getElem hjl] at ha ⊢; simp [hjl, ha]
  rw [this]
end
end Go.Pv
